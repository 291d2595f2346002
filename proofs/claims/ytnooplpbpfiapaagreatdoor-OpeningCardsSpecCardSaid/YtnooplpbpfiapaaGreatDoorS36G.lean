/- Tagged digests by the program. -/
import Derived.Test.YtnooplpbpfiapaaGreatDoorS36F
namespace Go.Proofs.YtnooplpbpfiapaaGreatDoor
open Go.Pv Go.Pv.Sha
set_option maxRecDepth 100000
set_option maxHeartbeats 4000000
def y8d (st : q5d) (e : PEnd) (s : q5d) : Prop := ∃ o : Option (Acc (BitVec 8)), accOk q5e 1 st o ∧ q5y o = [] ∧ e = .ret (k1p o) ∧ s = q6o T.uint8 st o
def z84 (l : List Unit) : List PV := List.replicate l.length (.val (.int .u8 0))
theorem q6t {α : Type} {row : List α → List PV} {k : Nat} (hrl : ∀ l, (row l).length = l.length * k) (hra : ∀ l m, row (l ++ m) = row l ++ row m) {T : TypeId} {bytes : Nat} {st : q5d} {K : PV → q5d → Prop}
  (o : Option (Acc α)) (ho : accOk row k st o) (xs : List α) {new : List PV} {m : Nat} (hnew : row xs = new) (hm : xs.length = m) (hsz : ((q5y o).length + m) * bytes ≤ 140737488355328)
  (h : ∀ o' : Option (Acc α), accOk row k st o' → q5y o' = q5y o ++ xs → K (k1p o') (q6o T st o')) : q6p T bytes k (k1p o) new m (q6o T st o) K := by
 by_cases h0 : m = 0
 ·have hx : xs = [] := List.length_eq_zero_iff.1 (hm.trans h0)
  subst hx
  cases o with
  | none =>
   subst h0
   simp only [z4y, z4z]
   rw [k4y]
   exact ⟨fun _ => h none trivial rfl, fun h => absurd rfl h⟩
  | some a =>
   obtain ⟨ha, hb⟩ := ho
   refine q7i hrl hra ha (by simp) [] hnew hm hsz fun a' ha' hl' hb' => ?_
   have e : k20 a.b (q6o T st (some a)) = st := by simp [q7x hb]
   rw [e] at hb' ⊢
   exact h (some a') ⟨ha', hb'⟩ hl'
 ·exact k1c hrl hra o ho xs hnew hm (by omega) hsz h
theorem j3h (n : Nat) (hn : n ≤ 100000000) (st : q5d) : PCalls P F.q2e [.nil, .int (n : Int)] st (y8d st) := by
 refine H.q2e.view q5n rfl rfl ?_
 have hw : IntKind.i64.wrap (n : Int) = n := k33 (by omega)
 have hw0 : IntKind.i64.wrap 0 = 0 := rfl
 by_cases h0 : n = 0
 ·subst h0
  repeat' (simp -dsimp -implicitDefEqProofs [*])
  exact .same ⟨none, trivial, rfl, rfl, rfl⟩
 ·have h0' : (0 : Int) < n := by omega
  repeat' (first 
   | (with_reducible refine And.intro (fun h => ?_) (fun h => ?_)) <;> (try (exfalso; omega))
   | ((with_reducible refine q51 ?_ fun hk => ?_); omega)
   | (simp -dsimp -implicitDefEqProofs [-q5f, *]))
  refine k1c (row := z84) (k := 1) (T := T.uint8) (st := st) (by simp [z84]) (by intro l m; simp [z84]) none trivial (List.replicate n ()) (by simp [z84, List.flatten_replicate_singleton]) (by simp) (by omega) (by simp; omega) fun o' h1 h2 => ?_
  cases o' with
  | none => exact absurd (congrArg List.length h2) (by simpa using fun h => h0 h.symm)
  | some a =>
   simp only [q9l] at h1
   simp only [q7z, q92, List.nil_append] at h2
   obtain ⟨⟨a1, a2, a3, a4⟩, a5⟩ := h1
   have hl : a.l.length = n := by rw [h2]; simp
   rw [hl] at a1 a4
   simp only [k10, q8q, hl]
   clear h2 hl
   obtain ⟨L, b, cap, R⟩ := a
   simp only at a1 a2 a3 a4 a5
   repeat' (simp -dsimp -implicitDefEqProofs [*])
   exact .same ⟨some ⟨[], b, cap, R⟩, ⟨⟨by simp, a2, a3, by simp⟩, a5⟩, rfl, rfl, rfl⟩
def y0a (x l : List (BitVec 8)) : Nat → Nat
 | 0 => 0
 | 1 => x.length
 | _ => x.length + l.length
def y60 (x l : List (BitVec 8)) : Nat → List (BitVec 8)
 | 0 => []
 | 1 => x
 | _ => x ++ l
theorem z64 (ta tb tc : Bool) (x l : List (BitVec 8)) (hx : x.length ≤ 1000000) (hl : l.length ≤ 1000000) (st : q5d) : Rets P F.q16 [.list ta [q5s tb x, q5s tc l] 2] st (q5s false (x ++ l)) := by
 refine H.q16.view q5n rfl rfl ?_
 repeat' (simp -dsimp -implicitDefEqProofs [*])
 refine q5g (fun i : Nat => [(0, .list ta [q5s tb x, q5s tc l] 2), (3, .int (y0a x l i : Nat)), (9, .list ta [q5s tb x, q5s tc l] 2), (10, .int 2), (11, .int (i : Nat))]) (fun _ => st) (fun i => i ≤ 2) (fun i => 2 - i) 0 (by omega) (by simp [y0a]) (.refl _) ?_
 intro i hi
 have hw1 : IntKind.i64.wrap (x.length : Int) = x.length := k33 (by omega)
 have hw2 : IntKind.i64.wrap ((x.length : Int) + l.length) = (x.length : Int) + l.length := q5m (by omega) (by omega)
 have hp1 : ¬ (x.length : Int) < 0 := by omega
 have hp2 : ¬ (x.length : Int) + l.length < 0 := by omega
 obtain rfl | rfl | rfl : i = 0 ∨ i = 1 ∨ i = 2 := by omega
 ·simp only [y0a]
  repeat' (simp -dsimp -implicitDefEqProofs [*])
  exact Next.intro 1 (by omega) (by omega) (by simp [y0a] <;> rfl) q5q
 ·simp only [y0a]
  repeat' (simp -dsimp -implicitDefEqProofs [*])
  exact Next.intro 2 (by omega) (by omega) (by simp [y0a] <;> rfl) q5q
 ·simp only [y0a]
  have hg := fun st => j3h (x.length + l.length) (by omega) st
  simp only [Int.natCast_add] at hg ⊢
  repeat' (simp -dsimp -implicitDefEqProofs [*])
  refine q50 (hg _) ?_
  rintro e s ⟨o, ho, hol, rfl, rfl⟩
  rw [q7m]
  clear hg
  repeat' (simp -dsimp -implicitDefEqProofs [-q5f, *])
  refine q5g (fun y : Nat × Option (Acc (BitVec 8)) => [(6, k1p y.2), (25, .list ta [q5s tb x, q5s tc l] 2), (26, .int 2), (27, .int (y.1 : Nat))]) (fun y => q6o T.uint8 st y.2) (fun y => y.1 ≤ 2 ∧ accOk q5e 1 st y.2 ∧ q5y y.2 = y60 x l y.1) (fun y => 2 - y.1) (0, o) ⟨by omega, ho, hol⟩ (by simp) (.refl _) ?_
  clear hol ho
  clear o
  rintro ⟨i, o⟩ ⟨hi, ho, hol⟩
  simp only at hi ho hol
  obtain rfl | rfl | rfl : i = 0 ∨ i = 1 ∨ i = 2 := by omega
  ·simp only [y60] at hol
   have kl : Hid (q5y o = []) := ⟨hol⟩
   clear hol
   repeat' (simp -dsimp -implicitDefEqProofs [-q5f, *])
   refine q6t q5z q5l o ho x rfl rfl (by rw [kl.out]; simp; omega) fun o' ho' hl' => ?_
   have kl' : Hid (q5y o' = x) := ⟨by rw [hl', kl.out]; rfl⟩
   clear hl'
   repeat' (simp -dsimp -implicitDefEqProofs [-q5f, *])
   exact Next.intro (1, o') ⟨by simp only; omega, ho', kl'.out⟩ (by simp only; omega) (by simp <;> rfl) q5q
  ·simp only [y60] at hol
   have kl : Hid (q5y o = x) := ⟨hol⟩
   clear hol
   repeat' (simp -dsimp -implicitDefEqProofs [-q5f, *])
   refine q6t q5z q5l o ho l rfl rfl (by rw [kl.out]; omega) fun o' ho' hl' => ?_
   have kl' : Hid (q5y o' = x ++ l) := ⟨by rw [hl', kl.out]⟩
   clear hl'
   repeat' (simp -dsimp -implicitDefEqProofs [-q5f, *])
   exact Next.intro (2, o') ⟨by simp only; omega, ho', kl'.out⟩ (by simp only; omega) (by simp <;> rfl) q5q
  ·simp only [y60] at hol
   have kl : Hid (q5y o = x ++ l) := ⟨hol⟩
   clear hol
   repeat' (simp -dsimp -implicitDefEqProofs [-q5f, *])
   exact RetView.accP1 rfl ho (.same ⟨by rw [kl.out], rfl⟩)
theorem z65 (tag : ByteArray) (htag : tag.size ≤ 1000) (t : Bool) (l : List (BitVec 8)) (hl : l.length ≤ 900000) (st : q5d) (h0 : q5w st 0 = some (.arr T.t8uint32 Sha.start.row)) (h1 : q5w st 1 = some q9o) : Rets P F.q4h [.str tag, q5s t l] st (.agg (q5e (q7h (q8m tag) l))) := by
 refine H.q4h.pure q5n rfl rfl ?_
 have hs1 := fun st h0 h1 => z83 false (q8m tag) (by rw [k1f]; omega) st h0 h1
 have e1 : q5s false (q8m tag) = .list false (k19 tag) tag.size := by
  show PV.list false (q5e _) _ = _
  rw [k2h, k1f]
 rw [e1] at hs1
 have hsz : tag.size ≤ 140737488355328 := by omega
 have hs32 : (q5e (sum (q8m tag))).length = 32 := rfl
 have hsub := sub_all hs32
 have hall : q5i (q5e z32) 0 (q5e (sum (q8m tag))) = q5e (sum (q8m tag)) := q6e _ _ rfl
 have hty : q7h (q8m tag) l = sum (sum (q8m tag) ++ l) := rfl
 have hs34 : (sum (q8m tag)).length = 32 := rfl
 have hall2 : ∀ L : List PV, L.length = 32 → q5i L 0 (q5e (q7h (q8m tag) l)) = q5e (q7h (q8m tag) l) := fun L h => q6e _ _ h.symm
 have hs33 : (q5e (q7h (q8m tag) l)).length = 32 := rfl
 have hsub2 := sub_all hs33
 have h2 := fun st h0 h1 => z83 false (sum (q8m tag) ++ l) (by rw [List.length_append, j24]; omega) st h0 h1
 rw [hty] at hall2 hs33 hsub2 ⊢
 clear hty
 have kh2 : Hid (∀ st h0 h1, Rets P F.q4k [q5s false (sum (q8m tag) ++ l)] st (.agg (q5e (sum (sum (q8m tag) ++ l))))) := ⟨h2⟩
 clear h2
 generalize sum (sum (q8m tag) ++ l) = D at *
 generalize sum (q8m tag) = E at *
 repeat' (first 
  | (with_reducible refine Fresh.intro fun b hb => ?_) <;> (try simp -dsimp -implicitDefEqProofs [*] at hb)
  | (simp -dsimp -implicitDefEqProofs [*]))
 revert b
 intro p hp
 have hp0 := (q6m hp h0).1
 have hp1 := (q6m hp h1).1
 have hc1 := fun R => hs1 ((p, .arr T.apiDigest R) :: st) (by simp [hp0, h0]) (by simp [hp1, h1])
 clear hs1
 have hc2 : Hid (∀ R, Rets P F.q4k [q5s false (E ++ l)] ((p, .arr T.apiDigest R) :: st) (.agg (q5e D))) := ⟨fun R => kh2.out ((p, .arr T.apiDigest R) :: st) (by simp [hp0, h0]) (by simp [hp1, h1])⟩
 clear kh2
 have ht32 : Hid (q5e E = List.take 32 (q5e E)) := ⟨(List.take_of_length_le (by omega)).symm⟩
 repeat' (first 
  | (with_reducible refine Fresh.intro fun b hb => ?_) <;> (try simp -dsimp -implicitDefEqProofs [*] at hb)
  | (with_reducible refine Rets.xcall (hc1 _) ?_)
  | (with_reducible refine Lit.imm ?_)
  | (simp -dsimp -implicitDefEqProofs [*]))
 clear hc1
 have hcc := fun st => z64 true false t E l (by omega) (by omega) st
 have e3 : q5s false E = .list false (((q5e E).drop 0).take (32 * 1)) 32 := by
  show PV.list false (q5e _) _ = _
  rw [hs34]; exact congrArg (PV.list false · 32) ht32.out
 rw [e3] at hcc
 refine k51 ‹_› (.refl _) (.cons (.list _ _ (.cons (.own _ _ _ _ _ 1 rfl (by omega) (by omega)) (.cons (.refl _) .nil))) .nil) (hcc _) ?_
 clear hcc e3
 rw [q7m]
 have hc3 := fun R => hc2.out R
 repeat' (first 
  | (with_reducible refine Rets.xcall (hc3 _) ?_)
  | (simp -dsimp -implicitDefEqProofs [*]))
open Go.Pv Go.Pv.Sha
set_option maxRecDepth 100000
set_option maxHeartbeats 4000000
def j0f (st : q5d) (L : List (BitVec 8)) (e : PEnd) (s : q5d) : Prop := ∃ o : Option (Acc (BitVec 8)), accOk q5e 1 st o ∧ q5y o = L ∧ e = .ret (k1p o) ∧ s = q6o T.uint8 st o
def k0z (n : Nat) : List (BitVec 8) := if n < 128 then [BitVec.ofNat 8 n] else BitVec.ofNat 8 (n % 128 + 128) :: k0z (n / 128)
theorem k9p {n : Nat} (h : n < 128) : k0z n = [BitVec.ofNat 8 n] := by rw [k0z, if_pos h]
theorem z3d {n : Nat} (h : ¬ n < 128) : k0z n = BitVec.ofNat 8 (n % 128 + 128) :: k0z (n / 128) := by rw [k0z, if_neg h]
theorem k54 (v : Nat) : PV.val (.int .u8 (IntKind.u8.wrap (v : Int))) = bv (BitVec.ofNat 8 v) := by
 rw [z28, BitVec.ofInt_natCast]
theorem y8e : ∀ x, x < 256 → x ||| 128 = x % 128 + 128 := by decide
theorem j6i (v : Nat) : (IntKind.u8.wrap (v : Int) % 2 ^ IntKind.u8.bits).toNat = v % 256 := by
 rw [z28, BitVec.ofInt_natCast]
 have e : IntKind.u8.bits = 8 := rfl
 rw [e]
 show (((BitVec.ofNat 8 v).toNat : Int) % 2 ^ 8).toNat = _
 rw [BitVec.toNat_ofNat]
 omega
theorem y0b (v : Nat) : PV.val (.int .u8 (IntKind.u8.wrap (((IntKind.u8.wrap (v : Int) % 2 ^ IntKind.u8.bits).toNat ||| 128 % 2 ^ IntKind.u8.bits : Nat) : Int))) = bv (BitVec.ofNat 8 (v % 128 + 128)) := by
 rw [k54, j6i]
 have e : 128 % 2 ^ IntKind.u8.bits = 128 := rfl
 rw [e, y8e _ (by omega)]
 congr 2
 omega
theorem y8f (n : Nat) (hn : n < 1000000000000) : IntKind.u64.wrap (((IntKind.u64.wrap (IntKind.u64.wrap (n : Int) * 2 ^ min 1 IntKind.u64.bits) % 2 ^ IntKind.u64.bits).toNat ^^^ (IntKind.u64.wrap ((n : Int).fdiv (2 ^ min 63 IntKind.i64.bits)) % 2 ^ IntKind.u64.bits).toNat : Nat) : Int) = 2 * (n : Int) := by
 have e1 : min 1 IntKind.u64.bits = 1 := rfl
 have e2 : min 63 IntKind.i64.bits = 63 := rfl
 have e3 : IntKind.u64.bits = 64 := rfl
 rw [e1, e2, e3, q70 (n := (n : Int)) (by omega) (by omega), q70 (n := (n : Int) * 2 ^ 1) (by omega) (by omega)]
 have e4 : (n : Int).fdiv (2 ^ 63) = 0 := by rw [Int.fdiv_eq_ediv_of_nonneg _ (by decide)]; omega
 rw [e4, q70 (n := 0) (by omega) (by omega)]
 have e5 : ((0 : Int) % 2 ^ 64).toNat = 0 := rfl
 have e6 : (((n : Int) * 2 ^ 1) % 2 ^ 64).toNat = 2 * n := by omega
 rw [e5, e6, Nat.xor_zero, q70 (by omega) (by omega)]
 omega
theorem z85 : ∀ (k n : Nat), n < 128 ^ (k + 1) → (k0z n).length ≤ k + 1
 | 0, n, h => by rw [k9p (by simpa using h)]; simp
 | k + 1, n, h => by
  by_cases hn : n < 128
  ·rw [k9p hn]; simp
  ·rw [z3d hn, List.length_cons]
   have := z85 k (n / 128) (by rw [Nat.div_lt_iff_lt_mul (by decide)]; rw [Nat.pow_succ] at h; exact h)
   omega
theorem q62 {n : Nat} (h : n < 18446744073709551616) : (k0z n).length ≤ 10 := z85 9 n (by
 have : (128 : Nat) ^ (9 + 1) = 1180591620717411303424 := by decide
 omega)
theorem k3n (u : Nat) (hu : u < 18446744073709551616) (o : Option (Acc (BitVec 8))) (st : q5d) (ho : accOk q5e 1 st o) (hol : (q5y o).length ≤ 10000000) : PCalls P F.q34 [k1p o, .val (.int .u64 (u : Int))] (q6o T.uint8 st o) (j0f st (q5y o ++ k0z u)) := by
 refine H.q34.view q5n rfl rfl ?_
 repeat' (simp -dsimp -implicitDefEqProofs [-q5f, *])
 refine q5g (fun y : Nat × Option (Acc (BitVec 8)) => [(0, k1p y.2), (1, .val (.int .u64 (y.1 : Int)))]) (fun y => q6o T.uint8 st y.2) (fun y => y.1 < 18446744073709551616 ∧ accOk q5e 1 st y.2 ∧ q5y y.2 ++ k0z y.1 = q5y o ++ k0z u) (fun y => y.1) (u, o) ⟨hu, ho, rfl⟩ (by simp) (.refl _) ?_
 rintro ⟨v, q⟩ ⟨hv, hq, hql⟩
 simp only at hv hq hql
 have hqn : Hid ((q5y q).length ≤ 10000010) := ⟨by have h1 := congrArg List.length hql; rw [List.length_append, List.length_append] at h1; have h2 := q62 hu; omega⟩
 have hb := k54 v
 have hb2 := y0b v
 by_cases h128 : v < 128
 ·rw [k9p h128] at hql
  have h : ¬ (128 : Int) ≤ v := by omega
  have kl : Hid (q5y q ++ [BitVec.ofNat 8 v] = q5y o ++ k0z u) := ⟨hql⟩
  clear hql
  generalize BitVec.ofNat 8 v = x at *
  repeat' (first 
   | (with_reducible refine Lit.imm ?_)
   | (simp -dsimp -implicitDefEqProofs [-q5f, *]))
  refine q6t q5z q5l q hq [x] rfl rfl (by have := hqn.out; omega) fun o' ho' hl' => ?_
  have kl' : Hid (q5y o' = q5y o ++ k0z u) := ⟨by rw [hl', kl.out]⟩
  clear hl' kl
  repeat' (simp -dsimp -implicitDefEqProofs [-q5f, *])
  exact .same ⟨o', ho', kl'.out, rfl, rfl⟩
 ·rw [z3d h128] at hql
  have h : (128 : Int) ≤ v := by omega
  have hsh : (v : Int).fdiv (2 ^ min 7 IntKind.u64.bits) = ((v / 128 : Nat) : Int) := by
   have e : min 7 IntKind.u64.bits = 7 := rfl
   rw [e, Int.fdiv_eq_ediv_of_nonneg _ (by decide)]
   simp
  have kl : Hid (q5y q ++ BitVec.ofNat 8 (v % 128 + 128) :: k0z (v / 128) = q5y o ++ k0z u) := ⟨hql⟩
  clear hql hb
  generalize BitVec.ofNat 8 (v % 128 + 128) = x at *
  repeat' (first 
   | (with_reducible refine Lit.imm ?_)
   | (simp -dsimp -implicitDefEqProofs [-q5f, *]))
  refine q6t q5z q5l q hq [x] rfl rfl (by have := hqn.out; omega) fun o' ho' hl' => ?_
  have kl' : Hid (q5y o' ++ k0z (v / 128) = q5y o ++ k0z u) := ⟨by rw [hl', ← kl.out]; simp⟩
  clear hl' kl
  repeat' (simp -dsimp -implicitDefEqProofs [-q5f, *])
  exact Next.intro (v / 128, o') ⟨by simp only; omega, ho', kl'.out⟩ (by simp only; omega) (by simp) q5q
theorem z3e (n : Nat) (hn : n < 1000000000000) (st : q5d) : Rets P F.q4o [.int (n : Int)] st (.val (.int .u64 ((2 * n : Nat) : Int))) := by
 refine H.q4o.pure q5n rfl rfl ?_
 have hu := y8f n hn
 repeat' (simp -dsimp -implicitDefEqProofs [*])
open Go.Pv Go.Pv.Sha
set_option maxRecDepth 100000
set_option maxHeartbeats 4000000
abbrev q7u : PV := .val (.string ⟨#[]⟩)
abbrev j8j (n : Nat) : List PV := [.int 1, .int (n : Int), q7u, .nil]
abbrev z3f (s : ByteArray) : List PV := [.int 2, .int 0, .str s, .nil]
abbrev k00 (rows : List PV) (n : Nat) : List PV := [.int 3, .int 0, q7u, .list false rows n]
def accB {α : Type} : Option (Acc α) → List Nat
 | none => []
 | some a => [a.b]
theorem Cls_box {α : Type} {T : TypeId} {b : Nat} {x : PObj} {st : q5d} (o : Option (Acc α)) : Cls ((b, x) :: q6o T st o) (accB o) ((b, x) :: st) := by
 cases o with
 | none => exact Cls.self _ _
 | some a =>
  refine z8u fun c hc y hy => ?_
  have h : ¬ c = a.b := by simpa [accB] using hc
  have h2 : ¬ a.b = c := fun e => h e.symm
  simpa [q6o, q5w, h, h2] using hy
theorem accB_new {α : Type} {T : TypeId} {b : Nat} {st : q5d} {o : Option (Acc α)} (h : q6u (q6o T st o) b) : b ∉ accB o ∧ q6u st b := by
 cases o with
 | none => exact ⟨by simp [accB], h⟩
 | some a => exact ⟨by simpa [accB] using h.1.2, h.2⟩
theorem xappend_box {α : Type} {row : List α → List PV} {k : Nat} (hrl : ∀ l, (row l).length = l.length * k) (hra : ∀ l m, row (l ++ m) = row l ++ row m) {T T' : TypeId} {bytes b : Nat} {R : List PV} {st : q5d} {K : PV → q5d → Prop}
  (o : Option (Acc α)) (ho : accOk row k st o) (hb : q6u (q6o T st o) b) (xs : List α) {new : List PV} {m : Nat} (hnew : row xs = new) (hm : xs.length = m) (hm0 : 0 < m) (hsz : ((q5y o).length + m) * bytes ≤ 140737488355328)
  (h : ∀ o' : Option (Acc α), accOk row k ((b, .arr T' R) :: st) o' → q5y o' = q5y o ++ xs → K (k1p o') (q6o T ((b, .arr T' R) :: st) o')) : q6p T bytes k (k1p o) new m ((b, .arr T' R) :: q6o T st o) K :=
 k7p (row' := fun _ : List Unit => []) (k' := R.length) (T' := T') hrl hra o (some ⟨[], b, 1, R⟩) ho ⟨⟨by simp, by simp, by simp, by simp⟩, hb⟩ xs hnew hm hm0 hsz h
theorem StLe.box {α : Type} {T : TypeId} {b : Nat} {x : PObj} {st : q5d} (o : Option (Acc α)) (hb : q6u st b) : StLe (q6o T st o) (q6o T ((b, x) :: st) o) := by
 cases o with
 | none => exact .fresh hb
 | some a => exact z4w (.fresh hb)
theorem accOk.unbox {α : Type} {row : List α → List PV} {k : Nat} {b : Nat} {x : PObj} {st : q5d} {o : Option (Acc α)} (h : accOk row k ((b, x) :: st) o) : accOk row k st o := by
 cases o with
 | none => trivial
 | some a => exact ⟨h.1, h.2.2⟩
theorem z3g (n : Nat) (hn : n < 1000000000000) (o : Option (Acc (BitVec 8))) (st : q5d) (ho : accOk q5e 1 st o) (hol : (q5y o).length ≤ 1000000) : PCalls P F.q3b [k1p o, .agg (j8j n)] (q6o T.uint8 st o) (j0f st (q5y o ++ (1#8 :: k0z (2 * n)))) := by
 refine H.q3b.view q5n rfl rfl ?_
 have hu := fun st => z3e n hn st
 repeat' (first 
  | (with_reducible refine Fresh.intro fun b hb => ?_) <;> (try simp -dsimp -implicitDefEqProofs [*] at hb)
  | (simp -dsimp -implicitDefEqProofs [-q5f, *]))
 revert b
 intro b hb
 obtain ⟨hnb, hns⟩ := accB_new hb
 refine DrawLate.by (Cls ((b, .arr T.apiValue (j8j n)) :: q6o T.uint8 st o) (accB o)) (Cls.self _ _) ?_
 repeat' (simp -dsimp -implicitDefEqProofs [-q5f, *])
 refine xappend_box q5z q5l o ho hb [1#8] rfl rfl (by omega) (by omega) fun o1 ho1 hl1 => ?_
 have hcl := q9m (T := T.uint8) ho1 (Cls_box (T := T.uint8) (b := b) (x := .arr T.apiValue (j8j n)) (st := st) o)
 refine ⟨hcl, ?_⟩
 have kl : Hid (q5y o1 = q5y o ++ [1#8]) := ⟨hl1⟩
 clear hl1
 repeat' (first 
  | (with_reducible refine Rets.xcall (hu _) ?_)
  | (simp -dsimp -implicitDefEqProofs [-q5f, *]))
 refine q50 (k3n (2 * n) (by omega) o1 _ ho1 (by rw [kl.out]; simp; omega)) ?_
 rintro e s ⟨o2, ho2, hl2, rfl, rfl⟩
 rw [q7m]
 have kl2 : Hid (q5y o2 = q5y o ++ 1#8 :: k0z (2 * n)) := ⟨by rw [hl2, kl.out]; simp⟩
 clear hl2 kl hcl
 have hcl := q9m (T := T.uint8) ho2 (Cls_box (T := T.uint8) (b := b) (x := .arr T.apiValue (j8j n)) (st := st) o)
 refine ⟨hcl, ?_⟩
 clear hcl
 repeat' (simp -dsimp -implicitDefEqProofs [-q5f, *])
 exact .drop (StLe.box o2 hns) ⟨o2, accOk.unbox ho2, kl2.out, rfl, rfl⟩
open Go.Pv Go.Pv.Sha
set_option maxRecDepth 100000
set_option maxHeartbeats 4000000
theorem k8h {α : Type} {row : List α → List PV} {k : Nat} {T : TypeId} {b : Nat} {x : PObj} {st : q5d} {o : Option (Acc α)} (h : accOk row k st o) (hg : q5w st b = some x) : q5w (q6o T st o) b = some x := by
 cases o with
 | none => exact hg
 | some a =>
  have := q6m h.2 hg
  simp [q6o, q5w, this, hg]
theorem z0q (s : ByteArray) (hs : s.size ≤ 1000) (o : Option (Acc (BitVec 8))) (st : q5d) (ho : accOk q5e 1 st o) (hol : (q5y o).length ≤ 1000000) : PCalls P F.q3c [k1p o, .agg (z3f s)] (q6o T.uint8 st o) (j0f st (q5y o ++ (2#8 :: (k0z s.size ++ q8m s)))) := by
 refine H.q3c.view q5n rfl rfl ?_
 have hsz : IntKind.u64.wrap (s.size : Int) = (s.size : Int) := q70 (by omega) (by omega)
 repeat' (first 
  | (with_reducible refine Fresh.intro fun b hb => ?_) <;> (try simp -dsimp -implicitDefEqProofs [*] at hb)
  | (simp -dsimp -implicitDefEqProofs [-q5f, *]))
 revert b
 intro b hb
 obtain ⟨hnb, hns⟩ := accB_new hb
 refine DrawLate.by (Cls ((b, .arr T.apiValue (z3f s)) :: q6o T.uint8 st o) (accB o)) (Cls.self _ _) ?_
 repeat' (simp -dsimp -implicitDefEqProofs [-q5f, *])
 refine xappend_box q5z q5l o ho hb [2#8] rfl rfl (by omega) (by omega) fun o1 ho1 hl1 => ?_
 have hcl := q9m (T := T.uint8) ho1 (Cls_box (T := T.uint8) (b := b) (x := .arr T.apiValue (z3f s)) (st := st) o)
 refine ⟨hcl, ?_⟩
 clear hcl
 have kl : Hid (q5y o1 = q5y o ++ [2#8]) := ⟨hl1⟩
 clear hl1
 repeat' (simp -dsimp -implicitDefEqProofs [-q5f, *])
 refine q50 (k3n s.size (by omega) o1 _ ho1 (by rw [kl.out]; simp; omega)) ?_
 rintro e st2 ⟨o2, ho2, hl2, rfl, rfl⟩
 rw [q7m]
 have kl2 : Hid (q5y o2 = q5y o ++ 2#8 :: k0z s.size) := ⟨by rw [hl2, kl.out]; simp⟩
 clear hl2 kl
 have hcl := q9m (T := T.uint8) ho2 (Cls_box (T := T.uint8) (b := b) (x := .arr T.apiValue (z3f s)) (st := st) o)
 refine ⟨hcl, ?_⟩
 clear hcl
 repeat' (simp -dsimp -implicitDefEqProofs [-q5f, *])
 have hn10 := q62 (n := s.size) (by omega)
 refine q6t q5z q5l o2 ho2 (q8m s) (k2h s).symm (k1f s) (by rw [kl2.out]; simp; omega) fun o3 ho3 hl3 => ?_
 have kl3 : Hid (q5y o3 = q5y o ++ 2#8 :: (k0z s.size ++ q8m s)) := ⟨by rw [hl3, kl2.out]; simp⟩
 clear hl3 kl2
 have hcl := q9m (T := T.uint8) ho3 (Cls_box (T := T.uint8) (b := b) (x := .arr T.apiValue (z3f s)) (st := st) o)
 refine ⟨hcl, ?_⟩
 clear hcl
 repeat' (simp -dsimp -implicitDefEqProofs [-q5f, *])
 exact .drop (StLe.box o3 hns) ⟨o3, accOk.unbox ho3, kl3.out, rfl, rfl⟩
def wtab (c : PV) : List PV := [.val .nilFunc, .func (.func F.q3b) [] [], .func (.func F.q3c) [] [], .func (.func F.q2t) [] [c]]
abbrev z5y (tab : List PV) : PV := .iptr [.iptr tab 0] 0
structure Wv where
 k : Nat
 c1 : PV
 c2 : PV
 c3 : PV
 B : List (BitVec 8)
abbrev Wv.row (v : Wv) : List PV := [.int (v.k : Int), v.c1, v.c2, v.c3]
structure Wv.Ok (M : Nat) (tab : List PV) (v : Wv) : Prop where
 k : v.k < 4
 B : v.B.length ≤ 2000
 run : ∃ g cs, tab[v.k]? = some (.func (.func g) [] cs) ∧ ∀ (o : Option (Acc (BitVec 8))) (st : q5d), accOk q5e 1 st o → (q5y o).length ≤ M →
  PCalls P g ([k1p o, .agg v.row] ++ cs) (q6o T.uint8 st o) (j0f st (q5y o ++ v.B))
theorem k12 : ∀ l : List Wv, (∀ v ∈ l, v.B.length ≤ 2000) → (l.flatMap Wv.B).length ≤ l.length * 2000
 | [], _ => by simp
 | v :: l, h => by
  have h1 := k12 l fun u hu => h u (List.mem_cons_of_mem _ hu)
  have h2 := h v List.mem_cons_self
  simp only [List.flatMap_cons, List.length_append, List.length_cons]
  omega
theorem accOk.box {α : Type} {row : List α → List PV} {k : Nat} {T : TypeId} {b : Nat} {x : PObj} {st : q5d} {o : Option (Acc α)} (hb : q6u (q6o T st o) b) (h : accOk row k st o) : accOk row k ((b, x) :: st) o := by
 cases o with
 | none => trivial
 | some a => exact ⟨h.1, ⟨hb.1.symm, h.2⟩⟩
theorem StLe.rebox {α : Type} {T : TypeId} {b : Nat} {x : PObj} {st : q5d} {o : Option (Acc α)} (hb : q6u (q6o T st o) b) : StLe (q6o T ((b, x) :: st) o) ((b, x) :: q6o T st o) := by
 cases o with
 | none => exact .refl _
 | some a => exact .swap hb.1.1
theorem k4j (M : Nat) (hM : M ≤ 500000) (tab : List PV) (l : List Wv) (hl : l.length ≤ 100) (hok : ∀ v ∈ l, v.Ok (M + 210000) tab) (o : Option (Acc (BitVec 8))) (st : q5d) (ho : accOk q5e 1 st o) (hol : (q5y o).length ≤ M) :
  PCalls P F.q2t [k1p o, .agg (k00 (l.flatMap Wv.row) l.length), z5y tab] (q6o T.uint8 st o) (j0f st (q5y o ++ (3#8 :: (k0z l.length ++ l.flatMap Wv.B)))) := by
 refine H.q2t.view q5n rfl rfl ?_
 have hsz : IntKind.u64.wrap (l.length : Int) = (l.length : Int) := q70 (by omega) (by omega)
 repeat' (first 
  | (with_reducible refine Fresh.intro fun b hb => ?_) <;> (try simp -dsimp -implicitDefEqProofs [*] at hb)
  | (simp -dsimp -implicitDefEqProofs [-q5f, *]))
 revert b
 intro b hb
 obtain ⟨hnb, hns⟩ := accB_new hb
 refine DrawLate.by (Cls ((b, .arr T.apiValue (k00 (l.flatMap Wv.row) l.length)) :: q6o T.uint8 st o) (accB o)) (Cls.self _ _) ?_
 repeat' (simp -dsimp -implicitDefEqProofs [-q5f, *])
 generalize hrow : k00 (l.flatMap Wv.row) l.length = RV
 refine xappend_box q5z q5l o ho hb [3#8] rfl rfl (by omega) (by omega) fun o1 ho1 hl1 => ?_
 have hcl := q9m (T := T.uint8) ho1 (Cls_box (T := T.uint8) (b := b) (x := .arr T.apiValue RV) (st := st) o)
 refine ⟨hcl, ?_⟩
 clear hcl
 have kl : Hid (q5y o1 = q5y o ++ [3#8]) := ⟨hl1⟩
 clear hl1
 repeat' (simp -dsimp -implicitDefEqProofs [-q5f, *])
 refine q50 (k3n l.length (by omega) o1 _ ho1 (by rw [kl.out]; simp; omega)) ?_
 rintro e st2 ⟨o2, ho2, hl2, rfl, rfl⟩
 rw [q7m]
 have kl2 : Hid (q5y o2 = q5y o ++ 3#8 :: k0z l.length) := ⟨by rw [hl2, kl.out]; simp⟩
 clear hl2 kl
 have hcl := q9m (T := T.uint8) ho2 (Cls_box (T := T.uint8) (b := b) (x := .arr T.apiValue RV) (st := st) o)
 refine ⟨hcl, ?_⟩
 clear hcl
 subst hrow
 have hgb := k8h (T := T.uint8) ho2 (b := b) (x := .arr T.apiValue (k00 (l.flatMap Wv.row) l.length)) (by simp)
 repeat' (simp -dsimp -implicitDefEqProofs [-q5f, *])
 clear hgb
 have hle : ∀ q : Option (Acc (BitVec 8)), StLe (q6o T.uint8 st q) (q6o T.uint8 ((b, .arr T.apiValue (k00 (l.flatMap Wv.row) l.length)) :: st) q) := fun q => StLe.box q hns
 have hub : ∀ q : Option (Acc (BitVec 8)), accOk q5e 1 ((b, .arr T.apiValue (k00 (l.flatMap Wv.row) l.length)) :: st) q → accOk q5e 1 st q := fun q => accOk.unbox
 generalize (b, PObj.arr T.apiValue (k00 (l.flatMap Wv.row) l.length)) :: st = st1 at *
 have kf : Hid ((∀ q, StLe (q6o T.uint8 st q) (q6o T.uint8 st1 q)) ∧ ∀ q, accOk q5e 1 st1 q → accOk q5e 1 st q) := ⟨hle, hub⟩
 clear hle hub hnb hns hb
 have kok : Hid (∀ v ∈ l, v.Ok (M + 210000) tab) := ⟨hok⟩
 clear hok
 refine q5g (fun y : Nat × Option (Acc (BitVec 8)) => [(0, k1p y.2), (2, z5y tab), (17, .list false (l.flatMap Wv.row) l.length), (18, .int l.length), (19, .int (y.1 : Nat))]) (fun y => q6o T.uint8 st1 y.2) (fun y => y.1 ≤ l.length ∧ accOk q5e 1 st1 y.2 ∧ q5y y.2 = q5y o ++ 3#8 :: (k0z l.length ++ (l.take y.1).flatMap Wv.B)) (fun y => l.length - y.1) (0, o2) ⟨by omega, ho2, by rw [kl2.out]; simp⟩ (by simp) (.refl _) ?_
 clear kl2 ho2
 clear o2
 rintro ⟨i, q⟩ ⟨hi, hq, hql⟩
 simp only at hi hq hql
 have kl : Hid (q5y q = q5y o ++ 3#8 :: (k0z l.length ++ (l.take i).flatMap Wv.B)) := ⟨hql⟩
 clear hql
 by_cases hil : i < l.length
 ·have hv := kok.out l[i] (List.getElem_mem hil)
  have hs := k0i (enc := Wv.row) (k := 4) (fun _ => rfl) l i hil
  have kB : Hid ((l.take (i + 1)).flatMap Wv.B = (l.take i).flatMap Wv.B ++ l[i].B) := ⟨by rw [List.take_succ_eq_append_getElem hil, List.flatMap_append, List.flatMap_cons, List.flatMap_nil, List.append_nil]⟩
  have hfl := q6h (enc := Wv.row) (k := 4) (fun _ => rfl) l
  have hwi := q5h (n := i) (by omega)
  obtain ⟨hk, hB, g, cs, htab, hrun⟩ := hv
  have kr : Hid (∀ (o : Option (Acc (BitVec 8))) (st : q5d), accOk q5e 1 st o → (q5y o).length ≤ M + 210000 →
   PCalls P g ([k1p o, .agg l[i].row] ++ cs) (q6o T.uint8 st o) (j0f st (q5y o ++ l[i].B))) := ⟨hrun⟩
  clear hrun
  generalize l[i] = v at *
  obtain ⟨k, c1, c2, c3, B⟩ := v
  simp only [Wv.row] at hk htab hB hs
  generalize hrows : l.flatMap Wv.row = rows at *
  repeat' (first 
   | (with_reducible refine Fresh.intro fun b hb => ?_) <;> (try simp -dsimp -implicitDefEqProofs [*] at hb)
   | (simp -dsimp -implicitDefEqProofs [-q5f, *]))
  revert b
  intro x hx
  obtain ⟨hnb, hns⟩ := accB_new hx
  refine DrawLate.by (Cls ((x, .arr T.apiValue [.int (k : Int), c1, c2, c3]) :: q6o T.uint8 st1 q) (accB q)) (Cls.self _ _) ?_
  repeat' (first 
   | ((with_reducible refine q51 ?_ fun hk => ?_); omega)
   | (simp -dsimp -implicitDefEqProofs [-q5f, *]))
  have hlq : (q5y q).length ≤ M + 210000 := by
   rw [kl.out]
   have h1 := k12 (l.take i) fun v hv => (kok.out v (List.mem_of_mem_take hv)).B
   have h2 := q62 (n := l.length) (by omega)
   simp only [List.length_append, List.length_cons, List.length_take] at h1 ⊢
   omega
  refine q50 (PCalls.le (StLe.rebox hx) (kr.out q ((x, .arr T.apiValue [.int (k : Int), c1, c2, c3]) :: st1) (accOk.box hx hq) hlq)) ?_
  rintro e st2 ⟨q2, hq2, hl2, rfl, rfl⟩
  rw [q7m]
  have kl2 : Hid (q5y q2 = q5y o ++ 3#8 :: (k0z l.length ++ (l.take (i + 1)).flatMap Wv.B)) := ⟨by rw [hl2, kl.out, kB.out]; simp⟩
  clear hl2 kl hlq kr kB
  have hcl := q9m (T := T.uint8) hq2 (Cls_box (T := T.uint8) (b := x) (x := .arr T.apiValue [.int (k : Int), c1, c2, c3]) (st := st1) q)
  refine ⟨hcl, ?_⟩
  clear hcl
  have hle := StLe.box (T := T.uint8) (x := .arr T.apiValue [.int (k : Int), c1, c2, c3]) q2 hns
  repeat' (simp -dsimp -implicitDefEqProofs [-q5f, *])
  exact Next.intro (i + 1, q2) ⟨by simp only; omega, accOk.unbox hq2, kl2.out⟩ (by simp only; omega) (by simp) (by simpa using hle)
 ·have e : i = l.length := by omega
  subst e
  have kl2 : Hid (q5y q = q5y o ++ 3#8 :: (k0z l.length ++ l.flatMap Wv.B)) := ⟨by rw [kl.out, List.take_length]⟩
  clear kl
  repeat' (simp -dsimp -implicitDefEqProofs [-q5f, *])
  exact .drop (kf.out.1 q) ⟨q, kf.out.2 q hq, kl2.out, rfl, rfl⟩
end Go.Proofs.YtnooplpbpfiapaaGreatDoor
