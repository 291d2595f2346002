/- Tagged digests by the program. -/
import Derived.Test.YtnooplpbpfiapaaGreatDoorS36F
namespace Go.Proofs.YtnooplpbpfiapaaGreatDoor
open Go.Pv Go.Pv.Sha
set_option maxRecDepth 100000
set_option maxHeartbeats 4000000
def y8i (st : q49) (e : PEnd) (s : q49) : Prop := ∃ o : Option (Acc (BitVec 8)), accOk q5a 1 st o ∧ q53 o = [] ∧ e = .ret (k1d o) ∧ s = q64 T.uint8 st o
def z8w (l : List Unit) : List PV := List.replicate l.length (.val (.int .u8 0))
theorem q6m {α : Type} {row : List α → List PV} {k : Nat} (hrl : ∀ l, (row l).length = l.length * k) (hra : ∀ l m, row (l ++ m) = row l ++ row m) {T : TypeId} {bytes : Nat} {st : q49} {K : PV → q49 → Prop}
  (o : Option (Acc α)) (ho : accOk row k st o) (xs : List α) {new : List PV} {m : Nat} (hnew : row xs = new) (hm : xs.length = m) (hsz : ((q53 o).length + m) * bytes ≤ 140737488355328)
  (h : ∀ o' : Option (Acc α), accOk row k st o' → q53 o' = q53 o ++ xs → K (k1d o') (q64 T st o')) : q6s T bytes k (k1d o) new m (q64 T st o) K := by
 by_cases h0 : m = 0
 ·have hx : xs = [] := List.length_eq_zero_iff.1 (hm.trans h0)
  subst hx
  cases o with
  | none =>
   subst h0
   simp only [z40, z41]
   rw [k4s]
   exact ⟨fun _ => h none trivial rfl, fun h => absurd rfl h⟩
  | some a =>
   obtain ⟨ha, hb⟩ := ho
   refine q7t hrl hra ha (by simp) [] hnew hm hsz fun a' ha' hl' hb' => ?_
   have e : k2v a.b (q64 T st (some a)) = st := by simp [q77 hb]
   rw [e] at hb' ⊢
   exact h (some a') ⟨ha', hb'⟩ hl'
 ·exact q9x hrl hra o ho xs hnew hm (by omega) hsz h
theorem j3b (n : Nat) (hn : n ≤ 100000000) (st : q49) : PCalls P F.q2i [.nil, .int (n : Int)] st (y8i st) := by
 refine H.q2i.view q5i rfl rfl ?_
 have hw : IntKind.i64.wrap (n : Int) = n := k3x (by omega)
 have hw0 : IntKind.i64.wrap 0 = 0 := rfl
 by_cases h0 : n = 0
 ·subst h0
  repeat' (simp -dsimp -implicitDefEqProofs [*])
  exact .same ⟨none, trivial, rfl, rfl, rfl⟩
 ·have h0' : (0 : Int) < n := by omega
  repeat' (first 
   | (with_reducible refine And.intro (fun h => ?_) (fun h => ?_)) <;> (try (exfalso; omega))
   | ((with_reducible refine q5u ?_ fun hk => ?_); omega)
   | (simp -dsimp -implicitDefEqProofs [-q5b, *]))
  refine q9x (row := z8w) (k := 1) (T := T.uint8) (st := st) (by simp [z8w]) (by intro l m; simp [z8w]) none trivial (List.replicate n ()) (by simp [z8w, List.flatten_replicate_singleton]) (by simp) (by omega) (by simp; omega) fun o' h1 h2 => ?_
  cases o' with
  | none => exact absurd (congrArg List.length h2) (by simpa using fun h => h0 h.symm)
  | some a =>
   simp only [q9j] at h1
   simp only [q7w, k29, List.nil_append] at h2
   obtain ⟨⟨a1, a2, a3, a4⟩, a5⟩ := h1
   have hl : a.l.length = n := by rw [h2]; simp
   rw [hl] at a1 a4
   simp only [k1s, q8m, hl]
   clear h2 hl
   obtain ⟨L, b, cap, R⟩ := a
   simp only at a1 a2 a3 a4 a5
   repeat' (simp -dsimp -implicitDefEqProofs [*])
   exact .same ⟨some ⟨[], b, cap, R⟩, ⟨⟨by simp, a2, a3, by simp⟩, a5⟩, rfl, rfl, rfl⟩
def j98 (x l : List (BitVec 8)) : Nat → Nat
 | 0 => 0
 | 1 => x.length
 | _ => x.length + l.length
def y63 (x l : List (BitVec 8)) : Nat → List (BitVec 8)
 | 0 => []
 | 1 => x
 | _ => x ++ l
theorem z68 (ta tb tc : Bool) (x l : List (BitVec 8)) (hx : x.length ≤ 1000000) (hl : l.length ≤ 1000000) (st : q49) : Rets P F.q19 [.list ta [q5o tb x, q5o tc l] 2] st (q5o false (x ++ l)) := by
 refine H.q19.view q5i rfl rfl ?_
 repeat' (simp -dsimp -implicitDefEqProofs [*])
 refine q5c (fun i : Nat => [(0, .list ta [q5o tb x, q5o tc l] 2), (3, .int (j98 x l i : Nat)), (9, .list ta [q5o tb x, q5o tc l] 2), (10, .int 2), (11, .int (i : Nat))]) (fun _ => st) (fun i => i ≤ 2) (fun i => 2 - i) 0 (by omega) (by simp [j98]) (.refl _) ?_
 intro i hi
 have hw1 : IntKind.i64.wrap (x.length : Int) = x.length := k3x (by omega)
 have hw2 : IntKind.i64.wrap ((x.length : Int) + l.length) = (x.length : Int) + l.length := q5j (by omega) (by omega)
 have hp1 : ¬ (x.length : Int) < 0 := by omega
 have hp2 : ¬ (x.length : Int) + l.length < 0 := by omega
 obtain rfl | rfl | rfl : i = 0 ∨ i = 1 ∨ i = 2 := by omega
 ·simp only [j98]
  repeat' (simp -dsimp -implicitDefEqProofs [*])
  exact Next.intro 1 (by omega) (by omega) (by simp [j98] <;> rfl) q5m
 ·simp only [j98]
  repeat' (simp -dsimp -implicitDefEqProofs [*])
  exact Next.intro 2 (by omega) (by omega) (by simp [j98] <;> rfl) q5m
 ·simp only [j98]
  have hg := fun st => j3b (x.length + l.length) (by omega) st
  simp only [Int.natCast_add] at hg ⊢
  repeat' (simp -dsimp -implicitDefEqProofs [*])
  refine q5w (hg _) ?_
  rintro e s ⟨o, ho, hol, rfl, rfl⟩
  rw [q7i]
  clear hg
  repeat' (simp -dsimp -implicitDefEqProofs [-q5b, *])
  refine q5c (fun y : Nat × Option (Acc (BitVec 8)) => [(6, k1d y.2), (25, .list ta [q5o tb x, q5o tc l] 2), (26, .int 2), (27, .int (y.1 : Nat))]) (fun y => q64 T.uint8 st y.2) (fun y => y.1 ≤ 2 ∧ accOk q5a 1 st y.2 ∧ q53 y.2 = y63 x l y.1) (fun y => 2 - y.1) (0, o) ⟨by omega, ho, hol⟩ (by simp) (.refl _) ?_
  clear hol ho
  clear o
  rintro ⟨i, o⟩ ⟨hi, ho, hol⟩
  simp only at hi ho hol
  obtain rfl | rfl | rfl : i = 0 ∨ i = 1 ∨ i = 2 := by omega
  ·simp only [y63] at hol
   have kl : Hid (q53 o = []) := ⟨hol⟩
   clear hol
   repeat' (simp -dsimp -implicitDefEqProofs [-q5b, *])
   refine q6m q5v q5h o ho x rfl rfl (by rw [kl.out]; simp; omega) fun o' ho' hl' => ?_
   have kl' : Hid (q53 o' = x) := ⟨by rw [hl', kl.out]; rfl⟩
   clear hl'
   repeat' (simp -dsimp -implicitDefEqProofs [-q5b, *])
   exact Next.intro (1, o') ⟨by simp only; omega, ho', kl'.out⟩ (by simp only; omega) (by simp <;> rfl) q5m
  ·simp only [y63] at hol
   have kl : Hid (q53 o = x) := ⟨hol⟩
   clear hol
   repeat' (simp -dsimp -implicitDefEqProofs [-q5b, *])
   refine q6m q5v q5h o ho l rfl rfl (by rw [kl.out]; omega) fun o' ho' hl' => ?_
   have kl' : Hid (q53 o' = x ++ l) := ⟨by rw [hl', kl.out]⟩
   clear hl'
   repeat' (simp -dsimp -implicitDefEqProofs [-q5b, *])
   exact Next.intro (2, o') ⟨by simp only; omega, ho', kl'.out⟩ (by simp only; omega) (by simp <;> rfl) q5m
  ·simp only [y63] at hol
   have kl : Hid (q53 o = x ++ l) := ⟨hol⟩
   clear hol
   repeat' (simp -dsimp -implicitDefEqProofs [-q5b, *])
   exact RetView.accP1 rfl ho (.same ⟨by rw [kl.out], rfl⟩)
theorem z69 (tag : ByteArray) (htag : tag.size ≤ 1000) (t : Bool) (l : List (BitVec 8)) (hl : l.length ≤ 900000) (st : q49) (h0 : q5s st 0 = some (.arr T.t8uint32 Sha.start.row)) (h1 : q5s st 1 = some q87) : Rets P F.q4c [.str tag, q5o t l] st (.agg (q5a (q7b (q8i tag) l))) := by
 refine H.q4c.pure q5i rfl rfl ?_
 have hs1 := fun st h0 h1 => z8v false (q8i tag) (by rw [k06]; omega) st h0 h1
 have e1 : q5o false (q8i tag) = .list false (k14 tag) tag.size := by
  show PV.list false (q5a _) _ = _
  rw [k2d, k06]
 rw [e1] at hs1
 have hsz : tag.size ≤ 140737488355328 := by omega
 have hs32 : (q5a (sum (q8i tag))).length = 32 := rfl
 have hsub := sub_all hs32
 have hall : q5e (q5a z32) 0 (q5a (sum (q8i tag))) = q5a (sum (q8i tag)) := q59 _ _ rfl
 have hty : q7b (q8i tag) l = sum (sum (q8i tag) ++ l) := rfl
 have hs34 : (sum (q8i tag)).length = 32 := rfl
 have hall2 : ∀ L : List PV, L.length = 32 → q5e L 0 (q5a (q7b (q8i tag) l)) = q5a (q7b (q8i tag) l) := fun L h => q59 _ _ h.symm
 have hs33 : (q5a (q7b (q8i tag) l)).length = 32 := rfl
 have hsub2 := sub_all hs33
 have h2 := fun st h0 h1 => z8v false (sum (q8i tag) ++ l) (by rw [List.length_append, j2z]; omega) st h0 h1
 rw [hty] at hall2 hs33 hsub2 ⊢
 clear hty
 have kh2 : Hid (∀ st h0 h1, Rets P F.q4g [q5o false (sum (q8i tag) ++ l)] st (.agg (q5a (sum (sum (q8i tag) ++ l))))) := ⟨h2⟩
 clear h2
 generalize sum (sum (q8i tag) ++ l) = D at *
 generalize sum (q8i tag) = E at *
 repeat' (first 
  | (with_reducible refine Fresh.intro fun b hb => ?_) <;> (try simp -dsimp -implicitDefEqProofs [*] at hb)
  | (simp -dsimp -implicitDefEqProofs [*]))
 revert b
 intro p hp
 have hp0 := (q6g hp h0).1
 have hp1 := (q6g hp h1).1
 have hc1 := fun R => hs1 ((p, .arr T.apiDigest R) :: st) (by simp [hp0, h0]) (by simp [hp1, h1])
 clear hs1
 have hc2 : Hid (∀ R, Rets P F.q4g [q5o false (E ++ l)] ((p, .arr T.apiDigest R) :: st) (.agg (q5a D))) := ⟨fun R => kh2.out ((p, .arr T.apiDigest R) :: st) (by simp [hp0, h0]) (by simp [hp1, h1])⟩
 clear kh2
 have ht32 : Hid (q5a E = List.take 32 (q5a E)) := ⟨(List.take_of_length_le (by omega)).symm⟩
 repeat' (first 
  | (with_reducible refine Fresh.intro fun b hb => ?_) <;> (try simp -dsimp -implicitDefEqProofs [*] at hb)
  | (with_reducible refine Rets.xcall (hc1 _) ?_)
  | (with_reducible refine Lit.imm ?_)
  | (simp -dsimp -implicitDefEqProofs [*]))
 clear hc1
 have hcc := fun st => z68 true false t E l (by omega) (by omega) st
 have e3 : q5o false E = .list false (((q5a E).drop 0).take (32 * 1)) 32 := by
  show PV.list false (q5a _) _ = _
  rw [hs34]; exact congrArg (PV.list false · 32) ht32.out
 rw [e3] at hcc
 refine k5y ‹_› (.refl _) (.cons (.list _ _ (.cons (.own _ _ _ _ _ 1 rfl (by omega) (by omega)) (.cons (.refl _) .nil))) .nil) (hcc _) ?_
 clear hcc e3
 rw [q7i]
 have hc3 := fun R => hc2.out R
 repeat' (first 
  | (with_reducible refine Rets.xcall (hc3 _) ?_)
  | (simp -dsimp -implicitDefEqProofs [*]))
open Go.Pv Go.Pv.Sha
set_option maxRecDepth 100000
set_option maxHeartbeats 4000000
def z96 (st : q49) (L : List (BitVec 8)) (e : PEnd) (s : q49) : Prop := ∃ o : Option (Acc (BitVec 8)), accOk q5a 1 st o ∧ q53 o = L ∧ e = .ret (k1d o) ∧ s = q64 T.uint8 st o
def k0q (n : Nat) : List (BitVec 8) := if n < 128 then [BitVec.ofNat 8 n] else BitVec.ofNat 8 (n % 128 + 128) :: k0q (n / 128)
theorem k9r {n : Nat} (h : n < 128) : k0q n = [BitVec.ofNat 8 n] := by rw [k0q, if_pos h]
theorem z3d {n : Nat} (h : ¬ n < 128) : k0q n = BitVec.ofNat 8 (n % 128 + 128) :: k0q (n / 128) := by rw [k0q, if_neg h]
theorem k52 (v : Nat) : PV.val (.int .u8 (IntKind.u8.wrap (v : Int))) = bv (BitVec.ofNat 8 v) := by
 rw [z29, BitVec.ofInt_natCast]
theorem y8j : ∀ x, x < 256 → x ||| 128 = x % 128 + 128 := by decide
theorem j57 (v : Nat) : (IntKind.u8.wrap (v : Int) % 2 ^ IntKind.u8.bits).toNat = v % 256 := by
 rw [z29, BitVec.ofInt_natCast]
 have e : IntKind.u8.bits = 8 := rfl
 rw [e]
 show (((BitVec.ofNat 8 v).toNat : Int) % 2 ^ 8).toNat = _
 rw [BitVec.toNat_ofNat]
 omega
theorem j99 (v : Nat) : PV.val (.int .u8 (IntKind.u8.wrap (((IntKind.u8.wrap (v : Int) % 2 ^ IntKind.u8.bits).toNat ||| 128 % 2 ^ IntKind.u8.bits : Nat) : Int))) = bv (BitVec.ofNat 8 (v % 128 + 128)) := by
 rw [k52, j57]
 have e : 128 % 2 ^ IntKind.u8.bits = 128 := rfl
 rw [e, y8j _ (by omega)]
 congr 2
 omega
theorem y8k (n : Nat) (hn : n < 1000000000000) : IntKind.u64.wrap (((IntKind.u64.wrap (IntKind.u64.wrap (n : Int) * 2 ^ min 1 IntKind.u64.bits) % 2 ^ IntKind.u64.bits).toNat ^^^ (IntKind.u64.wrap ((n : Int).fdiv (2 ^ min 63 IntKind.i64.bits)) % 2 ^ IntKind.u64.bits).toNat : Nat) : Int) = 2 * (n : Int) := by
 have e1 : min 1 IntKind.u64.bits = 1 := rfl
 have e2 : min 63 IntKind.i64.bits = 63 := rfl
 have e3 : IntKind.u64.bits = 64 := rfl
 rw [e1, e2, e3, q7x (n := (n : Int)) (by omega) (by omega), q7x (n := (n : Int) * 2 ^ 1) (by omega) (by omega)]
 have e4 : (n : Int).fdiv (2 ^ 63) = 0 := by rw [Int.fdiv_eq_ediv_of_nonneg _ (by decide)]; omega
 rw [e4, q7x (n := 0) (by omega) (by omega)]
 have e5 : ((0 : Int) % 2 ^ 64).toNat = 0 := rfl
 have e6 : (((n : Int) * 2 ^ 1) % 2 ^ 64).toNat = 2 * n := by omega
 rw [e5, e6, Nat.xor_zero, q7x (by omega) (by omega)]
 omega
theorem z8x : ∀ (k n : Nat), n < 128 ^ (k + 1) → (k0q n).length ≤ k + 1
 | 0, n, h => by rw [k9r (by simpa using h)]; simp
 | k + 1, n, h => by
  by_cases hn : n < 128
  ·rw [k9r hn]; simp
  ·rw [z3d hn, List.length_cons]
   have := z8x k (n / 128) (by rw [Nat.div_lt_iff_lt_mul (by decide)]; rw [Nat.pow_succ] at h; exact h)
   omega
theorem q6x {n : Nat} (h : n < 18446744073709551616) : (k0q n).length ≤ 10 := z8x 9 n (by
 have : (128 : Nat) ^ (9 + 1) = 1180591620717411303424 := by decide
 omega)
theorem k3f (u : Nat) (hu : u < 18446744073709551616) (o : Option (Acc (BitVec 8))) (st : q49) (ho : accOk q5a 1 st o) (hol : (q53 o).length ≤ 10000000) : PCalls P F.q32 [k1d o, .val (.int .u64 (u : Int))] (q64 T.uint8 st o) (z96 st (q53 o ++ k0q u)) := by
 refine H.q32.view q5i rfl rfl ?_
 repeat' (simp -dsimp -implicitDefEqProofs [-q5b, *])
 refine q5c (fun y : Nat × Option (Acc (BitVec 8)) => [(0, k1d y.2), (1, .val (.int .u64 (y.1 : Int)))]) (fun y => q64 T.uint8 st y.2) (fun y => y.1 < 18446744073709551616 ∧ accOk q5a 1 st y.2 ∧ q53 y.2 ++ k0q y.1 = q53 o ++ k0q u) (fun y => y.1) (u, o) ⟨hu, ho, rfl⟩ (by simp) (.refl _) ?_
 rintro ⟨v, q⟩ ⟨hv, hq, hql⟩
 simp only at hv hq hql
 have hqn : Hid ((q53 q).length ≤ 10000010) := ⟨by have h1 := congrArg List.length hql; rw [List.length_append, List.length_append] at h1; have h2 := q6x hu; omega⟩
 have hb := k52 v
 have hb2 := j99 v
 by_cases h128 : v < 128
 ·rw [k9r h128] at hql
  have h : ¬ (128 : Int) ≤ v := by omega
  have kl : Hid (q53 q ++ [BitVec.ofNat 8 v] = q53 o ++ k0q u) := ⟨hql⟩
  clear hql
  generalize BitVec.ofNat 8 v = x at *
  repeat' (first 
   | (with_reducible refine Lit.imm ?_)
   | (simp -dsimp -implicitDefEqProofs [-q5b, *]))
  refine q6m q5v q5h q hq [x] rfl rfl (by have := hqn.out; omega) fun o' ho' hl' => ?_
  have kl' : Hid (q53 o' = q53 o ++ k0q u) := ⟨by rw [hl', kl.out]⟩
  clear hl' kl
  repeat' (simp -dsimp -implicitDefEqProofs [-q5b, *])
  exact .same ⟨o', ho', kl'.out, rfl, rfl⟩
 ·rw [z3d h128] at hql
  have h : (128 : Int) ≤ v := by omega
  have hsh : (v : Int).fdiv (2 ^ min 7 IntKind.u64.bits) = ((v / 128 : Nat) : Int) := by
   have e : min 7 IntKind.u64.bits = 7 := rfl
   rw [e, Int.fdiv_eq_ediv_of_nonneg _ (by decide)]
   simp
  have kl : Hid (q53 q ++ BitVec.ofNat 8 (v % 128 + 128) :: k0q (v / 128) = q53 o ++ k0q u) := ⟨hql⟩
  clear hql hb
  generalize BitVec.ofNat 8 (v % 128 + 128) = x at *
  repeat' (first 
   | (with_reducible refine Lit.imm ?_)
   | (simp -dsimp -implicitDefEqProofs [-q5b, *]))
  refine q6m q5v q5h q hq [x] rfl rfl (by have := hqn.out; omega) fun o' ho' hl' => ?_
  have kl' : Hid (q53 o' ++ k0q (v / 128) = q53 o ++ k0q u) := ⟨by rw [hl', ← kl.out]; simp⟩
  clear hl' kl
  repeat' (simp -dsimp -implicitDefEqProofs [-q5b, *])
  exact Next.intro (v / 128, o') ⟨by simp only; omega, ho', kl'.out⟩ (by simp only; omega) (by simp) q5m
theorem z3e (n : Nat) (hn : n < 1000000000000) (st : q49) : Rets P F.q4k [.int (n : Int)] st (.val (.int .u64 ((2 * n : Nat) : Int))) := by
 refine H.q4k.pure q5i rfl rfl ?_
 have hu := y8k n hn
 repeat' (simp -dsimp -implicitDefEqProofs [*])
open Go.Pv Go.Pv.Sha
set_option maxRecDepth 100000
set_option maxHeartbeats 4000000
abbrev q7p : PV := .val (.string ⟨#[]⟩)
abbrev j8f (n : Nat) : List PV := [.int 1, .int (n : Int), q7p, .nil]
abbrev z3f (s : ByteArray) : List PV := [.int 2, .int 0, .str s, .nil]
abbrev k0r (rows : List PV) (n : Nat) : List PV := [.int 3, .int 0, q7p, .list false rows n]
def accB {α : Type} : Option (Acc α) → List Nat
 | none => []
 | some a => [a.b]
theorem Cls_box {α : Type} {T : TypeId} {b : Nat} {x : PObj} {st : q49} (o : Option (Acc α)) : Cls ((b, x) :: q64 T st o) (accB o) ((b, x) :: st) := by
 cases o with
 | none => exact Cls.self _ _
 | some a =>
  refine z8o fun c hc y hy => ?_
  have h : ¬ c = a.b := by simpa [accB] using hc
  have h2 : ¬ a.b = c := fun e => h e.symm
  simpa [q64, q5s, h, h2] using hy
theorem accB_new {α : Type} {T : TypeId} {b : Nat} {st : q49} {o : Option (Acc α)} (h : q6p (q64 T st o) b) : b ∉ accB o ∧ q6p st b := by
 cases o with
 | none => exact ⟨by simp [accB], h⟩
 | some a => exact ⟨by simpa [accB] using h.1.2, h.2⟩
theorem xappend_box {α : Type} {row : List α → List PV} {k : Nat} (hrl : ∀ l, (row l).length = l.length * k) (hra : ∀ l m, row (l ++ m) = row l ++ row m) {T T' : TypeId} {bytes b : Nat} {R : List PV} {st : q49} {K : PV → q49 → Prop}
  (o : Option (Acc α)) (ho : accOk row k st o) (hb : q6p (q64 T st o) b) (xs : List α) {new : List PV} {m : Nat} (hnew : row xs = new) (hm : xs.length = m) (hm0 : 0 < m) (hsz : ((q53 o).length + m) * bytes ≤ 140737488355328)
  (h : ∀ o' : Option (Acc α), accOk row k ((b, .arr T' R) :: st) o' → q53 o' = q53 o ++ xs → K (k1d o') (q64 T ((b, .arr T' R) :: st) o')) : q6s T bytes k (k1d o) new m ((b, .arr T' R) :: q64 T st o) K :=
 k7u (row' := fun _ : List Unit => []) (k' := R.length) (T' := T') hrl hra o (some ⟨[], b, 1, R⟩) ho ⟨⟨by simp, by simp, by simp, by simp⟩, hb⟩ xs hnew hm hm0 hsz h
theorem StLe.box {α : Type} {T : TypeId} {b : Nat} {x : PObj} {st : q49} (o : Option (Acc α)) (hb : q6p st b) : StLe (q64 T st o) (q64 T ((b, x) :: st) o) := by
 cases o with
 | none => exact .fresh hb
 | some a => exact z4x (.fresh hb)
theorem accOk.unbox {α : Type} {row : List α → List PV} {k : Nat} {b : Nat} {x : PObj} {st : q49} {o : Option (Acc α)} (h : accOk row k ((b, x) :: st) o) : accOk row k st o := by
 cases o with
 | none => trivial
 | some a => exact ⟨h.1, h.2.2⟩
theorem z3g (n : Nat) (hn : n < 1000000000000) (o : Option (Acc (BitVec 8))) (st : q49) (ho : accOk q5a 1 st o) (hol : (q53 o).length ≤ 1000000) : PCalls P F.q3b [k1d o, .agg (j8f n)] (q64 T.uint8 st o) (z96 st (q53 o ++ (1#8 :: k0q (2 * n)))) := by
 refine H.q3b.view q5i rfl rfl ?_
 have hu := fun st => z3e n hn st
 repeat' (first 
  | (with_reducible refine Fresh.intro fun b hb => ?_) <;> (try simp -dsimp -implicitDefEqProofs [*] at hb)
  | (simp -dsimp -implicitDefEqProofs [-q5b, *]))
 revert b
 intro b hb
 obtain ⟨hnb, hns⟩ := accB_new hb
 refine DrawLate.by (Cls ((b, .arr T.apiValue (j8f n)) :: q64 T.uint8 st o) (accB o)) (Cls.self _ _) ?_
 repeat' (simp -dsimp -implicitDefEqProofs [-q5b, *])
 refine xappend_box q5v q5h o ho hb [1#8] rfl rfl (by omega) (by omega) fun o1 ho1 hl1 => ?_
 have hcl := q9k (T := T.uint8) ho1 (Cls_box (T := T.uint8) (b := b) (x := .arr T.apiValue (j8f n)) (st := st) o)
 refine ⟨hcl, ?_⟩
 have kl : Hid (q53 o1 = q53 o ++ [1#8]) := ⟨hl1⟩
 clear hl1
 repeat' (first 
  | (with_reducible refine Rets.xcall (hu _) ?_)
  | (simp -dsimp -implicitDefEqProofs [-q5b, *]))
 refine q5w (k3f (2 * n) (by omega) o1 _ ho1 (by rw [kl.out]; simp; omega)) ?_
 rintro e s ⟨o2, ho2, hl2, rfl, rfl⟩
 rw [q7i]
 have kl2 : Hid (q53 o2 = q53 o ++ 1#8 :: k0q (2 * n)) := ⟨by rw [hl2, kl.out]; simp⟩
 clear hl2 kl hcl
 have hcl := q9k (T := T.uint8) ho2 (Cls_box (T := T.uint8) (b := b) (x := .arr T.apiValue (j8f n)) (st := st) o)
 refine ⟨hcl, ?_⟩
 clear hcl
 repeat' (simp -dsimp -implicitDefEqProofs [-q5b, *])
 exact .drop (StLe.box o2 hns) ⟨o2, accOk.unbox ho2, kl2.out, rfl, rfl⟩
open Go.Pv Go.Pv.Sha
set_option maxRecDepth 100000
set_option maxHeartbeats 4000000
theorem k8m {α : Type} {row : List α → List PV} {k : Nat} {T : TypeId} {b : Nat} {x : PObj} {st : q49} {o : Option (Acc α)} (h : accOk row k st o) (hg : q5s st b = some x) : q5s (q64 T st o) b = some x := by
 cases o with
 | none => exact hg
 | some a =>
  have := q6g h.2 hg
  simp [q64, q5s, this, hg]
theorem z0v (s : ByteArray) (hs : s.size ≤ 1000) (o : Option (Acc (BitVec 8))) (st : q49) (ho : accOk q5a 1 st o) (hol : (q53 o).length ≤ 1000000) : PCalls P F.q3c [k1d o, .agg (z3f s)] (q64 T.uint8 st o) (z96 st (q53 o ++ (2#8 :: (k0q s.size ++ q8i s)))) := by
 refine H.q3c.view q5i rfl rfl ?_
 have hsz : IntKind.u64.wrap (s.size : Int) = (s.size : Int) := q7x (by omega) (by omega)
 repeat' (first 
  | (with_reducible refine Fresh.intro fun b hb => ?_) <;> (try simp -dsimp -implicitDefEqProofs [*] at hb)
  | (simp -dsimp -implicitDefEqProofs [-q5b, *]))
 revert b
 intro b hb
 obtain ⟨hnb, hns⟩ := accB_new hb
 refine DrawLate.by (Cls ((b, .arr T.apiValue (z3f s)) :: q64 T.uint8 st o) (accB o)) (Cls.self _ _) ?_
 repeat' (simp -dsimp -implicitDefEqProofs [-q5b, *])
 refine xappend_box q5v q5h o ho hb [2#8] rfl rfl (by omega) (by omega) fun o1 ho1 hl1 => ?_
 have hcl := q9k (T := T.uint8) ho1 (Cls_box (T := T.uint8) (b := b) (x := .arr T.apiValue (z3f s)) (st := st) o)
 refine ⟨hcl, ?_⟩
 clear hcl
 have kl : Hid (q53 o1 = q53 o ++ [2#8]) := ⟨hl1⟩
 clear hl1
 repeat' (simp -dsimp -implicitDefEqProofs [-q5b, *])
 refine q5w (k3f s.size (by omega) o1 _ ho1 (by rw [kl.out]; simp; omega)) ?_
 rintro e st2 ⟨o2, ho2, hl2, rfl, rfl⟩
 rw [q7i]
 have kl2 : Hid (q53 o2 = q53 o ++ 2#8 :: k0q s.size) := ⟨by rw [hl2, kl.out]; simp⟩
 clear hl2 kl
 have hcl := q9k (T := T.uint8) ho2 (Cls_box (T := T.uint8) (b := b) (x := .arr T.apiValue (z3f s)) (st := st) o)
 refine ⟨hcl, ?_⟩
 clear hcl
 repeat' (simp -dsimp -implicitDefEqProofs [-q5b, *])
 have hn10 := q6x (n := s.size) (by omega)
 refine q6m q5v q5h o2 ho2 (q8i s) (k2d s).symm (k06 s) (by rw [kl2.out]; simp; omega) fun o3 ho3 hl3 => ?_
 have kl3 : Hid (q53 o3 = q53 o ++ 2#8 :: (k0q s.size ++ q8i s)) := ⟨by rw [hl3, kl2.out]; simp⟩
 clear hl3 kl2
 have hcl := q9k (T := T.uint8) ho3 (Cls_box (T := T.uint8) (b := b) (x := .arr T.apiValue (z3f s)) (st := st) o)
 refine ⟨hcl, ?_⟩
 clear hcl
 repeat' (simp -dsimp -implicitDefEqProofs [-q5b, *])
 exact .drop (StLe.box o3 hns) ⟨o3, accOk.unbox ho3, kl3.out, rfl, rfl⟩
def wtab (c : PV) : List PV := [.val .nilFunc, .func (.func F.q3b) [] [], .func (.func F.q3c) [] [], .func (.func F.q2w) [] [c]]
abbrev z51 (tab : List PV) : PV := .iptr [.iptr tab 0] 0
structure Wv where
 k : Nat
 c1 : PV
 c2 : PV
 c3 : PV
 B : List (BitVec 8)
abbrev Wv.row (v : Wv) : List PV := [.int (v.k : Int), v.c1, v.c2, v.c3]
structure Wv.Ok (M : Nat) (tab : List PV) (v : Wv) : Prop where
 k : v.k < 4
 B : v.B.length ≤ 2000
 run : ∃ g cs, tab[v.k]? = some (.func (.func g) [] cs) ∧ ∀ (o : Option (Acc (BitVec 8))) (st : q49), accOk q5a 1 st o → (q53 o).length ≤ M →
  PCalls P g ([k1d o, .agg v.row] ++ cs) (q64 T.uint8 st o) (z96 st (q53 o ++ v.B))
theorem k1u : ∀ l : List Wv, (∀ v ∈ l, v.B.length ≤ 2000) → (l.flatMap Wv.B).length ≤ l.length * 2000
 | [], _ => by simp
 | v :: l, h => by
  have h1 := k1u l fun u hu => h u (List.mem_cons_of_mem _ hu)
  have h2 := h v List.mem_cons_self
  simp only [List.flatMap_cons, List.length_append, List.length_cons]
  omega
theorem accOk.box {α : Type} {row : List α → List PV} {k : Nat} {T : TypeId} {b : Nat} {x : PObj} {st : q49} {o : Option (Acc α)} (hb : q6p (q64 T st o) b) (h : accOk row k st o) : accOk row k ((b, x) :: st) o := by
 cases o with
 | none => trivial
 | some a => exact ⟨h.1, ⟨hb.1.symm, h.2⟩⟩
theorem StLe.rebox {α : Type} {T : TypeId} {b : Nat} {x : PObj} {st : q49} {o : Option (Acc α)} (hb : q6p (q64 T st o) b) : StLe (q64 T ((b, x) :: st) o) ((b, x) :: q64 T st o) := by
 cases o with
 | none => exact .refl _
 | some a => exact .swap hb.1.1
theorem k4c (M : Nat) (hM : M ≤ 500000) (tab : List PV) (l : List Wv) (hl : l.length ≤ 100) (hok : ∀ v ∈ l, v.Ok (M + 210000) tab) (o : Option (Acc (BitVec 8))) (st : q49) (ho : accOk q5a 1 st o) (hol : (q53 o).length ≤ M) :
  PCalls P F.q2w [k1d o, .agg (k0r (l.flatMap Wv.row) l.length), z51 tab] (q64 T.uint8 st o) (z96 st (q53 o ++ (3#8 :: (k0q l.length ++ l.flatMap Wv.B)))) := by
 refine H.q2w.view q5i rfl rfl ?_
 have hsz : IntKind.u64.wrap (l.length : Int) = (l.length : Int) := q7x (by omega) (by omega)
 repeat' (first 
  | (with_reducible refine Fresh.intro fun b hb => ?_) <;> (try simp -dsimp -implicitDefEqProofs [*] at hb)
  | (simp -dsimp -implicitDefEqProofs [-q5b, *]))
 revert b
 intro b hb
 obtain ⟨hnb, hns⟩ := accB_new hb
 refine DrawLate.by (Cls ((b, .arr T.apiValue (k0r (l.flatMap Wv.row) l.length)) :: q64 T.uint8 st o) (accB o)) (Cls.self _ _) ?_
 repeat' (simp -dsimp -implicitDefEqProofs [-q5b, *])
 generalize hrow : k0r (l.flatMap Wv.row) l.length = RV
 refine xappend_box q5v q5h o ho hb [3#8] rfl rfl (by omega) (by omega) fun o1 ho1 hl1 => ?_
 have hcl := q9k (T := T.uint8) ho1 (Cls_box (T := T.uint8) (b := b) (x := .arr T.apiValue RV) (st := st) o)
 refine ⟨hcl, ?_⟩
 clear hcl
 have kl : Hid (q53 o1 = q53 o ++ [3#8]) := ⟨hl1⟩
 clear hl1
 repeat' (simp -dsimp -implicitDefEqProofs [-q5b, *])
 refine q5w (k3f l.length (by omega) o1 _ ho1 (by rw [kl.out]; simp; omega)) ?_
 rintro e st2 ⟨o2, ho2, hl2, rfl, rfl⟩
 rw [q7i]
 have kl2 : Hid (q53 o2 = q53 o ++ 3#8 :: k0q l.length) := ⟨by rw [hl2, kl.out]; simp⟩
 clear hl2 kl
 have hcl := q9k (T := T.uint8) ho2 (Cls_box (T := T.uint8) (b := b) (x := .arr T.apiValue RV) (st := st) o)
 refine ⟨hcl, ?_⟩
 clear hcl
 subst hrow
 have hgb := k8m (T := T.uint8) ho2 (b := b) (x := .arr T.apiValue (k0r (l.flatMap Wv.row) l.length)) (by simp)
 repeat' (simp -dsimp -implicitDefEqProofs [-q5b, *])
 clear hgb
 have hle : ∀ q : Option (Acc (BitVec 8)), StLe (q64 T.uint8 st q) (q64 T.uint8 ((b, .arr T.apiValue (k0r (l.flatMap Wv.row) l.length)) :: st) q) := fun q => StLe.box q hns
 have hub : ∀ q : Option (Acc (BitVec 8)), accOk q5a 1 ((b, .arr T.apiValue (k0r (l.flatMap Wv.row) l.length)) :: st) q → accOk q5a 1 st q := fun q => accOk.unbox
 generalize (b, PObj.arr T.apiValue (k0r (l.flatMap Wv.row) l.length)) :: st = st1 at *
 have kf : Hid ((∀ q, StLe (q64 T.uint8 st q) (q64 T.uint8 st1 q)) ∧ ∀ q, accOk q5a 1 st1 q → accOk q5a 1 st q) := ⟨hle, hub⟩
 clear hle hub hnb hns hb
 have kok : Hid (∀ v ∈ l, v.Ok (M + 210000) tab) := ⟨hok⟩
 clear hok
 refine q5c (fun y : Nat × Option (Acc (BitVec 8)) => [(0, k1d y.2), (2, z51 tab), (17, .list false (l.flatMap Wv.row) l.length), (18, .int l.length), (19, .int (y.1 : Nat))]) (fun y => q64 T.uint8 st1 y.2) (fun y => y.1 ≤ l.length ∧ accOk q5a 1 st1 y.2 ∧ q53 y.2 = q53 o ++ 3#8 :: (k0q l.length ++ (l.take y.1).flatMap Wv.B)) (fun y => l.length - y.1) (0, o2) ⟨by omega, ho2, by rw [kl2.out]; simp⟩ (by simp) (.refl _) ?_
 clear kl2 ho2
 clear o2
 rintro ⟨i, q⟩ ⟨hi, hq, hql⟩
 simp only at hi hq hql
 have kl : Hid (q53 q = q53 o ++ 3#8 :: (k0q l.length ++ (l.take i).flatMap Wv.B)) := ⟨hql⟩
 clear hql
 by_cases hil : i < l.length
 ·have hv := kok.out l[i] (List.getElem_mem hil)
  have hs := q9r (enc := Wv.row) (k := 4) (fun _ => rfl) l i hil
  have kB : Hid ((l.take (i + 1)).flatMap Wv.B = (l.take i).flatMap Wv.B ++ l[i].B) := ⟨by rw [List.take_succ_eq_append_getElem hil, List.flatMap_append, List.flatMap_cons, List.flatMap_nil, List.append_nil]⟩
  have hfl := q6i (enc := Wv.row) (k := 4) (fun _ => rfl) l
  have hwi := q5d (n := i) (by omega)
  obtain ⟨hk, hB, g, cs, htab, hrun⟩ := hv
  have kr : Hid (∀ (o : Option (Acc (BitVec 8))) (st : q49), accOk q5a 1 st o → (q53 o).length ≤ M + 210000 →
   PCalls P g ([k1d o, .agg l[i].row] ++ cs) (q64 T.uint8 st o) (z96 st (q53 o ++ l[i].B))) := ⟨hrun⟩
  clear hrun
  generalize l[i] = v at *
  obtain ⟨k, c1, c2, c3, B⟩ := v
  simp only [Wv.row] at hk htab hB hs
  generalize hrows : l.flatMap Wv.row = rows at *
  repeat' (first 
   | (with_reducible refine Fresh.intro fun b hb => ?_) <;> (try simp -dsimp -implicitDefEqProofs [*] at hb)
   | (simp -dsimp -implicitDefEqProofs [-q5b, *]))
  revert b
  intro x hx
  obtain ⟨hnb, hns⟩ := accB_new hx
  refine DrawLate.by (Cls ((x, .arr T.apiValue [.int (k : Int), c1, c2, c3]) :: q64 T.uint8 st1 q) (accB q)) (Cls.self _ _) ?_
  repeat' (first 
   | ((with_reducible refine q5u ?_ fun hk => ?_); omega)
   | (simp -dsimp -implicitDefEqProofs [-q5b, *]))
  have hlq : (q53 q).length ≤ M + 210000 := by
   rw [kl.out]
   have h1 := k1u (l.take i) fun v hv => (kok.out v (List.mem_of_mem_take hv)).B
   have h2 := q6x (n := l.length) (by omega)
   simp only [List.length_append, List.length_cons, List.length_take] at h1 ⊢
   omega
  refine q5w (PCalls.le (StLe.rebox hx) (kr.out q ((x, .arr T.apiValue [.int (k : Int), c1, c2, c3]) :: st1) (accOk.box hx hq) hlq)) ?_
  rintro e st2 ⟨q2, hq2, hl2, rfl, rfl⟩
  rw [q7i]
  have kl2 : Hid (q53 q2 = q53 o ++ 3#8 :: (k0q l.length ++ (l.take (i + 1)).flatMap Wv.B)) := ⟨by rw [hl2, kl.out, kB.out]; simp⟩
  clear hl2 kl hlq kr kB
  have hcl := q9k (T := T.uint8) hq2 (Cls_box (T := T.uint8) (b := x) (x := .arr T.apiValue [.int (k : Int), c1, c2, c3]) (st := st1) q)
  refine ⟨hcl, ?_⟩
  clear hcl
  have hle := StLe.box (T := T.uint8) (x := .arr T.apiValue [.int (k : Int), c1, c2, c3]) q2 hns
  repeat' (simp -dsimp -implicitDefEqProofs [-q5b, *])
  exact Next.intro (i + 1, q2) ⟨by simp only; omega, accOk.unbox hq2, kl2.out⟩ (by simp only; omega) (by simp) (by simpa using hle)
 ·have e : i = l.length := by omega
  subst e
  have kl2 : Hid (q53 q = q53 o ++ 3#8 :: (k0q l.length ++ l.flatMap Wv.B)) := ⟨by rw [kl.out, List.take_length]⟩
  clear kl
  repeat' (simp -dsimp -implicitDefEqProofs [-q5b, *])
  exact .drop (kf.out.1 q) ⟨q, kf.out.2 q hq, kl2.out, rfl, rfl⟩
end Go.Proofs.YtnooplpbpfiapaaGreatDoor
