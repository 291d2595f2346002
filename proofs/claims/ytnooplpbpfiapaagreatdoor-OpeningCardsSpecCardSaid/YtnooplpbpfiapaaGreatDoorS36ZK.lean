/- Calculating modulo the prime; values of a polynomial. -/
import Derived.Test.YtnooplpbpfiapaaGreatDoorS36X
import Derived.Test.YtnooplpbpfiapaaGreatDoorLIp
import Derived.Test.YtnooplpbpfiapaaGreatDoorLVf
namespace Go.Proofs.YtnooplpbpfiapaaGreatDoor
open Go.Pv Go.Pv.Sha Go.Pv.Ip
set_option maxRecDepth 100000
set_option maxHeartbeats 4000000
theorem y44 (n : Int) : n.tmod 1073741789 = n % 1073741789 ∨ (n.tmod 1073741789 = n % 1073741789 - 1073741789 ∧ n % 1073741789 ≠ 0) := by
 have h := @Int.tmod_eq_emod n 1073741789
 split at h
 ·left; simpa using h
 ·rename_i hn
  right
  refine ⟨by simpa using h, fun e => hn (.inr (Int.dvd_of_emod_eq_zero e))⟩
theorem k2p (n : Int) (st : q5d) : Rets P F.q3e [.int n] st (.int (n % Qi)) := by
 refine H.q3e.pure q5n rfl rfl ?_
 have b := k0c n
 have hQ : n % Qi = n % 1073741789 := rfl
 have w1 : IntKind.i64.wrap (n % Qi) = n % Qi := q5m (by omega) (by unfold Qi at *; omega)
 rcases y44 n with h | ⟨h, h0⟩
 ·have e : n.tmod 1073741789 = n % Qi := h
  have hn : ¬ n % Qi < 0 := by omega
  clear b hQ h
  generalize n % Qi = m at *
  repeat' (simp -dsimp -implicitDefEqProofs [*])
 ·have w0 : IntKind.i64.wrap (n.tmod 1073741789) = n.tmod 1073741789 := q5m (by unfold Qi at *; omega) (by unfold Qi at *; omega)
  have hn : n.tmod 1073741789 < 0 := by unfold Qi at *; omega
  have e : n.tmod 1073741789 + 1073741789 = n % Qi := by unfold Qi at *; omega
  clear b hQ h h0
  generalize n % Qi = m at *
  generalize hk : n.tmod 1073741789 = k at *
  repeat' (simp -dsimp -implicitDefEqProofs [*])
theorem j3o (n : Int) (h : 0 ≤ n) : n.tmod 1073741789 = n % Qi := Int.tmod_eq_emod_of_nonneg h
theorem mulQ {x y : Int} (hx : 0 ≤ x ∧ x ≤ Qi) (hy : 0 ≤ y ∧ y ≤ Qi) : 0 ≤ x * y ∧ x * y ≤ 1152921430460400521 := by
 refine ⟨Int.mul_nonneg hx.1 hy.1, ?_⟩
 have := Int.mul_le_mul hx.2 hy.2 hy.1 (by decide : (0 : Int) ≤ Qi)
 unfold Qi at *
 omega
theorem k6d (a b : Int) (st : q5d) : Rets P F.q4l [.int a, .int b] st (.int (a % Qi * (b % Qi) % Qi)) := by
 refine H.q4l.pure q5n rfl rfl ?_
 have ha := k0c a
 have hb := k0c b
 have hm : ∀ n st, Rets P F.q3e [.int n] st (.int (n % Qi)) := fun n st => k2p n st
 have hm1 := fun st => hm a st
 have hm2 := fun st => hm b st
 clear hm
 generalize a % Qi = x at *
 generalize b % Qi = y at *
 have h := mulQ ⟨ha.1, by omega⟩ ⟨hb.1, by omega⟩
 have w1 : IntKind.i64.wrap (x * y) = x * y := q5m (by omega) (by omega)
 have e := j3o (x * y) h.1
 have m := k0c (x * y)
 have w2 : IntKind.i64.wrap (x * y % Qi) = x * y % Qi := q5m (by omega) (by unfold Qi at *; omega)
 clear ha hb h m
 repeat' (first 
  | (with_reducible refine Rets.xcall (hm1 _) ?_)
  | (with_reducible refine Rets.xcall (hm2 _) ?_)
  | (simp -dsimp -implicitDefEqProofs [*]))
theorem z7c (a b : Int) (t : Bool) (st : q5d) : Rets P F.q4v [.list t [.int a, .int b] 2] st (.int ((a % Qi + b % Qi) % Qi)) := by
 refine H.q4v.pure q5n rfl rfl ?_
 have hm1 := fun st => k2p a st
 have hm2 := fun st => k2p b st
 have ha := k0c a
 have hb := k0c b
 have e1 : (0 + a % Qi).tmod 1073741789 = a % Qi := by rw [Int.zero_add, j3o _ ha.1]; exact Int.emod_eq_of_lt ha.1 ha.2
 generalize a % Qi = x at *
 generalize b % Qi = y at *
 have w1 : IntKind.i64.wrap x = x := q5m (by omega) (by unfold Qi at *; omega)
 have e0 : x.tmod 1073741789 = x := by simpa using e1
 have w2 : IntKind.i64.wrap (x + y) = x + y := q5m (by omega) (by unfold Qi at *; omega)
 have e2 : (x + y).tmod 1073741789 = (x + y) % Qi := j3o _ (by omega)
 have m := k0c (x + y)
 have w3 : IntKind.i64.wrap ((x + y) % Qi) = (x + y) % Qi := q5m (by omega) (by unfold Qi at *; omega)
 clear m ha hb e1
 have u1 : IntKind.i64.wrap 1 = 1 := by decide
 have u2 : IntKind.i64.wrap 2 = 2 := by decide
 repeat' (simp -dsimp -implicitDefEqProofs [*])
 refine q5g (fun i : Nat => [(3, .int (if i = 0 then 0 else if i = 1 then x else (x + y) % Qi)), (6, .list t [.int a, .int b] 2), (7, .int 2), (8, .int (i : Nat))]) (fun _ => st) (fun i => i ≤ 2) (fun i => 2 - i) 0 (by omega) (by simp) (.refl _) ?_
 intro i hi
 have : i = 0 ∨ i = 1 ∨ i = 2 := by omega
 rcases this with rfl | rfl | rfl
 ·repeat' (first 
   | (with_reducible refine Rets.xcall (hm1 _) ?_)
   | (simp -dsimp -implicitDefEqProofs [*]))
  exact Next.intro 1 (by omega) (by omega) (by simp) q5q
 ·repeat' (first 
   | (with_reducible refine Rets.xcall (hm2 _) ?_)
   | (simp -dsimp -implicitDefEqProofs [*]))
  exact Next.intro 2 (by omega) (by omega) (by simp) q5q
 ·repeat' (simp -dsimp -implicitDefEqProofs [*])
open Go.Pv Go.Pv.Ip
set_option maxRecDepth 100000
set_option maxHeartbeats 4000000
theorem z10 (f : Nat) (c n : Int) : k2j f c n 0 = c := by
 cases f with
 | zero => rfl
 | succ f => rw [k2j, if_neg (by decide)]
theorem k37 {f : Nat} {c n k : Int} (hk : 0 < k) : k2j (f + 1) c n k = k2j f (if k % 2 = 1 then c % Qi * (n % Qi) % Qi else c) (n % Qi * (n % Qi) % Qi) (k / 2) := by
 rw [k2j, if_pos hk, ← Int.mul_emod, ← Int.mul_emod]
theorem z87 (n : Int) : k2j 31 1 n (Qi - 2) = k3l n := by
 unfold k3l
 rw [k37 (f := 30) (n := n) (by decide), k37 (f := 30) (n := n % Qi) (by decide), Int.emod_emod_of_dvd n (Int.dvd_refl Qi)]
theorem z5i {n : Int} (h : n % Qi = 0) : k3l n = 0 := by
 unfold k3l
 rw [h]
 decide +kernel
theorem z3l (n : Int) (st : q5d) : Rets P F.q4g [.int n] st (.tuple [.int (k3l n), .int (if n % Qi = 0 then 120 else 0)]) := by
 have cm := k2p n
 by_cases h0 : n % Qi = 0
 ·rw [if_pos h0, z5i h0]
  rw [h0] at cm
  refine H.q4g.pure q5n rfl rfl ?_
  repeat' (first 
   | (with_reducible refine Rets.xcall (cm _) ?_)
   | (simp -dsimp -implicitDefEqProofs [*]))
 rw [if_neg h0]
 have hp := z87 n
 obtain ⟨R, hR⟩ : ∃ R, R = k3l n := ⟨_, rfl⟩
 rw [← hR] at hp ⊢
 obtain ⟨r, hr⟩ : ∃ r, r = n % Qi := ⟨_, rfl⟩
 rw [← hr] at cm h0
 clear hR hr
 refine H.q4g.view q5n rfl rfl ?_
 have hp := Hid.mk hp
 repeat' (first 
  | (with_reducible refine Rets.xcall (cm _) ?_)
  | (simp -dsimp -implicitDefEqProofs [*]))
 refine q5g (fun y : Nat × Int × Int × Int => [(0, .int n), (2, .int y.2.1), (4, .int y.2.2.2), (5, .int y.2.2.1)]) (fun _ => st) (fun y => (0 ≤ y.2.2.2 ∧ y.2.2.2 < 2 ^ y.1 ∧ y.2.2.2 ≤ 1073741787) ∧ Hid (k2j y.1 y.2.1 y.2.2.1 y.2.2.2 = R)) (fun y => y.2.2.2.toNat) (31, 1, n, 1073741787) ⟨show (0 : Int) ≤ 1073741787 ∧ (1073741787 : Int) < 2 ^ 31 ∧ (1073741787 : Int) ≤ 1073741787 by decide, hp⟩ (by simp) (.refl _) ?_
 rintro ⟨f, c, m, k⟩ ⟨⟨hk0, hkf, hkm⟩, hI⟩
 simp only at hk0 hkf hkm
 replace hI : Hid (k2j f c m k = R) := hI
 by_cases hk : k = 0
 ·subst hk
  have e := hI.out
  rw [z10] at e
  subst e
  clear hI hp
  repeat' (simp -dsimp -implicitDefEqProofs [*])
  exact .same ⟨rfl, rfl⟩
 ·cases f with
  | zero => simp at hkf; omega
  | succ f =>
   have e := hI.out
   rw [k37 (by omega)] at e
   have t1 : k.tmod 2 = k % 2 := Int.tmod_eq_emod_of_nonneg hk0
   have t2 : k.tdiv 2 = k / 2 := Int.tdiv_eq_ediv_of_nonneg hk0
   have w1 : IntKind.i64.wrap (k % 2) = k % 2 := q5m (by omega) (by omega)
   have w2 : IntKind.i64.wrap (k / 2) = k / 2 := q5m (by omega) (by omega)
   have c1 := k6d c m
   have c2 := k6d m m
   have hkf2 : k / 2 < 2 ^ f := by
    rw [Int.pow_succ] at hkf
    omega
   have hkk : 0 ≤ k / 2 ∧ k / 2 ≤ 1073741787 ∧ (k / 2).toNat < k.toNat := by omega
   obtain ⟨A, hA⟩ : ∃ A, A = c % Qi * (m % Qi) % Qi := ⟨_, rfl⟩
   obtain ⟨B, hB⟩ : ∃ B, B = m % Qi * (m % Qi) % Qi := ⟨_, rfl⟩
   rw [← hA, ← hB] at e
   rw [← hA] at c1
   rw [← hB] at c2
   obtain ⟨q, hq⟩ : ∃ q, q = k / 2 := ⟨_, rfl⟩
   rw [← hq] at e hkf2 hkk t2 w2
   clear hA hB hI hp hq hkf
   by_cases hb : k % 2 = 1
   ·rw [if_pos hb] at e
    have e := Hid.mk e
    rw [hb] at t1
    clear hb w1
    repeat' (first 
     | (with_reducible refine Rets.xcall (c1 _) ?_)
     | (with_reducible refine Rets.xcall (c2 _) ?_)
     | (simp -dsimp -implicitDefEqProofs [*]))
    exact Next.intro (f, A, B, q) ⟨⟨hkk.1, hkf2, hkk.2.1⟩, e⟩ (by simp only; omega) (by simp) q5q
   ·rw [if_neg hb] at e
    have e := Hid.mk e
    have hb0 : k % 2 = 0 := by omega
    rw [hb0] at t1
    clear hb hb0 w1
    repeat' (first 
     | (with_reducible refine Rets.xcall (c2 _) ?_)
     | (simp -dsimp -implicitDefEqProofs [*]))
    exact Next.intro (f, c, B, q) ⟨⟨hkk.1, hkf2, hkk.2.1⟩, e⟩ (by simp only; omega) (by simp) q5q
open Go.Pv Go.Pv.Ip
set_option maxRecDepth 100000
set_option maxHeartbeats 4000000
structure Pt where
 X : Int
 Y : Int
 deriving DecidableEq, Inhabited
def Pt.enc (x : Pt) : List PV := [.int x.X, .int x.Y]
abbrev Pt.pv (x : Pt) : PV := .agg x.enc
@[simp] theorem Pt.len (x : Pt) : x.enc.length = 2 := rfl
@[simp] theorem Pt.subAll (x : Pt) : sub x.enc 0 2 = some x.enc := rfl
@[simp] theorem Pt.get0 (x : Pt) : x.enc[0]? = some (.int x.X) := rfl
@[simp] theorem Pt.getE0 (x : Pt) (h : 0 < x.enc.length) : x.enc[0]'h = .int x.X := rfl
@[simp] theorem Pt.set0 (x : Pt) (v : Int) : List.set x.enc 0 (.int v) = (Pt.mk v x.Y).enc := rfl
@[simp] theorem Pt.get1 (x : Pt) : x.enc[1]? = some (.int x.Y) := rfl
@[simp] theorem Pt.getE1 (x : Pt) (h : 1 < x.enc.length) : x.enc[1]'h = .int x.Y := rfl
@[simp] theorem Pt.set1 (x : Pt) (v : Int) : List.set x.enc 1 (.int v) = (Pt.mk x.X v).enc := rfl
@[simp] theorem Pt.fz (b : Nat) (o : PObj) (k : Nat) (x : Pt) : k2g b o k x.enc = x.enc := rfl
@[simp] theorem Pt.fill (x y : Pt) : q5i x.enc 0 y.enc = y.enc := rfl
@[simp] theorem Pt.key (x : Pt) : PV.vals? x.enc = some [.int .i64 x.X, .int .i64 x.Y] := rfl
def Pt.row (l : List Pt) : List PV := l.flatMap Pt.enc
abbrev Pt.lst (t : Bool) (l : List Pt) : PV := .list t (Pt.row l) l.length
@[simp] theorem Pt.row_len (l : List Pt) : (Pt.row l).length = l.length * 2 := q6h Pt.enc 2 Pt.len l
@[simp] theorem Pt.row_nil : Pt.row [] = [] := rfl
@[simp] theorem Pt.row_cons (x : Pt) (l : List Pt) : Pt.row (x :: l) = x.enc ++ Pt.row l := rfl
theorem Pt.row_append (l m : List Pt) : Pt.row (l ++ m) = Pt.row l ++ Pt.row m := by simp [Pt.row]
@[simp] theorem Pt.row_sub (l : List Pt) (i : Nat) (h : i < l.length) : sub (Pt.row l) (i * 2) 2 = some (l[i]).enc := k0i Pt.enc 2 Pt.len l i h
theorem Pt.row_drop (l : List Pt) (i : Nat) : (Pt.row l).drop (i * 2) = Pt.row (l.drop i) := k5z Pt.enc 2 Pt.len l i
theorem Pt.row_take (l : List Pt) (i : Nat) : (Pt.row l).take (i * 2) = Pt.row (l.take i) := z4v Pt.enc 2 Pt.len l i
@[simp] theorem Pt.row_getE0 (l : List Pt) (i : Nat) (h : i * 2 < (Pt.row l).length) : (Pt.row l)[i * 2]'h = .int (l[i]'(by rw [Pt.row_len] at h; omega)).X := by
 have hl : i < l.length := by rw [Pt.row_len] at h; omega
 have := q7n Pt.enc 2 Pt.len l i 0 hl (by omega)
 have h2 : (Pt.row l)[i * 2]? = some (.int l[i].X) := this
 rw [List.getElem?_eq_getElem h] at h2
 exact Option.some.inj h2
@[simp] theorem Pt.row_get0 (l : List Pt) (i : Nat) (h : i < l.length) : (Pt.row l)[i * 2]? = some (.int l[i].X) := q7n Pt.enc 2 Pt.len l i 0 h (by omega)
@[simp] theorem Pt.row_getE1 (l : List Pt) (i : Nat) (h : i * 2 + 1 < (Pt.row l).length) : (Pt.row l)[i * 2 + 1]'h = .int (l[i]'(by rw [Pt.row_len] at h; omega)).Y := by
 have hl : i < l.length := by rw [Pt.row_len] at h; omega
 have := q7n Pt.enc 2 Pt.len l i 1 hl (by omega)
 have h2 : (Pt.row l)[i * 2 + 1]? = some (.int l[i].Y) := this
 rw [List.getElem?_eq_getElem h] at h2
 exact Option.some.inj h2
@[simp] theorem Pt.row_get1 (l : List Pt) (i : Nat) (h : i < l.length) : (Pt.row l)[i * 2 + 1]? = some (.int l[i].Y) := q7n Pt.enc 2 Pt.len l i 1 h (by omega)
theorem Pt.row_fz (b : Nat) (o : PObj) (k : Nat) (l : List Pt) : k2g b o k (Pt.row l) = Pt.row l := k6w Pt.enc Pt.fz b o k l
attribute [simp] Pt.row_fz
def q56 (l : List Pt) : List (Int × Int) := l.map fun p => (p.X, p.Y)
theorem q71 (l : List Pt) : (q56 l).length = l.length := by simp [q56]
theorem q8h {l : List Pt} {i : Nat} (h : i < l.length) : (q56 l).getD i (0, 0) = (l[i].X, l[i].Y) := by simp [q56, h]
def oth (l : List Pt) (i : Nat) : Nat → List Pt
 | 0 => []
 | k + 1 => if k = i then oth l i k else oth l i k ++ [l.getD k default]
theorem j3p (l : List Pt) (i : Nat) {k : Nat} : ∀ {n : Nat}, k ≤ n → oth l i k <+: oth l i n
 | 0, h => by
  have : k = 0 := by omega
  subst this
  exact List.prefix_rfl
 | n + 1, h => by
  by_cases e : k = n + 1
  ·subst e; exact List.prefix_rfl
  ·have ih := j3p l i (k := k) (n := n) (by omega)
   rw [oth]
   split
   ·exact ih
   ·exact ih.trans (List.prefix_append _ _)
def k46 (f : Pt → Int) : List Pt → Int
 | [] => 1
 | p :: l => f p * k46 f l
theorem k38 (f : Pt → Int) : ∀ (l : List Pt) (p : Pt), k46 f (l ++ [p]) = k46 f l * f p
 | [], p => by simp [k46]
 | q :: l, p => by
  have := k38 f l p
  simp only [List.cons_append, k46, this]
  rw [Int.mul_assoc]
theorem z5j (f : Pt → Int) (l : List Pt) (i : Nat) : ∀ k, k46 f (oth l i k) = k2k (fun k => f (l.getD k default)) i k
 | 0 => rfl
 | k + 1 => by
  have ih := z5j f l i k
  rw [oth, k2k]
  split
  ·exact ih
  ·rw [k38, ih]
theorem k9w {f g : Nat → Int} {i : Nat} : ∀ {n : Nat} (_ : ∀ k, k < n → f k = g k), k2k f i n = k2k g i n
 | 0, _ => rfl
 | n + 1, h => by
  have ih := k9w (f := f) (g := g) (i := i) (n := n) fun k hk => h k (by omega)
  simp only [k2k, ih, h n (by omega)]
theorem j3q (l : List Pt) (i : Nat) (z : Int) : k46 (fun p => z - p.X) (oth l i l.length) = k2k (fun k => z - Ip.X (q56 l) k) i (q56 l).length := by
 rw [z5j, q71]
 refine k9w fun k hk => ?_
 show z - (l.getD k default).X = z - ((q56 l).getD k (0, 0)).1
 rw [q8h hk]
 simp [hk]
theorem z5k (t : Bool) (l : List Pt) (i : Int) (st : q5d) : Rets P F.q4u [Pt.lst t l, .int i] st (.func (.func F.q3s) [] [.iptr [Pt.lst t l] 0, .iptr [.int i] 0]) := by
 refine H.q4u.view q5n rfl rfl ?_
 repeat' (first 
  | (with_reducible refine Fresh.intro fun b hb => ?_) <;> (try simp -dsimp -implicitDefEqProofs [*] at hb)
  | (with_reducible refine RetView.fz 1 ?_ ?_)
  | (with_reducible refine RetView.same ?_)
  | (simp -dsimp -implicitDefEqProofs [*]))
theorem z3m (t : Bool) (l : List Pt) (hl : l.length ≤ 100000) (i : Nat) : y4s P F.q3s [] [.iptr [Pt.lst t l] 0, .iptr [.int (i : Int)] 0] ((oth l i l.length).map Pt.pv) := by
 intro σ S inv lp hround s hs
 refine H.q3s.view q5n rfl rfl ?_
 repeat' (simp -dsimp -implicitDefEqProofs [*])
 refine q5g (fun y : Nat × σ => [(0, .func (.yield lp) [] []), (1, .iptr [Pt.lst t l] 0), (2, .iptr [.int (i : Int)] 0), (6, Pt.lst t l), (7, .int l.length), (8, .int y.1)]) (fun y => S y.2)
  (fun y => y.1 ≤ l.length ∧ inv ((oth l i y.1).map Pt.pv) y.2) (fun y => l.length - y.1) (0, s) ⟨Nat.zero_le _, by simpa [oth] using hs⟩ (by simp) (.refl _) ?_
 clear hs
 rintro ⟨k, s⟩ ⟨hk, hs⟩
 simp only at hk hs
 by_cases hkl : k < l.length
 ·have hw := q5h (n := k) (by omega)
  have s0 := Pt.row_sub l k hkl
  have hk2 : k * 2 < l.length * 2 := by omega
  have hpre := (j3p l i (k := k + 1) (n := l.length) (by omega)).map Pt.pv
  rw [oth] at hpre
  obtain ⟨x, hx⟩ : ∃ x, x = l[k] := ⟨_, rfl⟩
  have hxd : l.getD k default = x := by simp [hx, hkl]
  rw [← hx] at s0
  rw [hxd] at hpre
  clear hx
  by_cases hki : k = i
  ·rw [if_pos hki] at hpre
   have hs2 : inv ((oth l i (k + 1)).map Pt.pv) s := by rw [oth, if_pos hki]; exact hs
   subst hki
   clear hs hpre hround
   repeat' (first 
    | (with_reducible refine Fresh.intro fun b hb => ?_) <;> (try simp -dsimp -implicitDefEqProofs [*] at hb)
    | (simp -dsimp -implicitDefEqProofs [*]))
   exact Next.intro (k + 1, s) ⟨by simp only; omega, hs2⟩ (by simp only; omega) (by simp) q5q
  ·rw [if_neg hki, List.map_append] at hpre
   have hki2 : ¬ (k : Int) = i := by omega
   have hr := hround _ x.pv s hs hpre
   clear hround hpre hs
   repeat' (first 
    | (with_reducible refine Fresh.intro fun b hb => ?_) <;> (try simp -dsimp -implicitDefEqProofs [*] at hb)
    | (simp -dsimp -implicitDefEqProofs [*]))
   refine z6v (PRound.le (.fresh hb) hr) fun e st' hq => ?_
   obtain ⟨rfl, s', hs', rfl⟩ := hq
   have hs2 : inv ((oth l i (k + 1)).map Pt.pv) s' := by rw [oth, if_neg hki, hxd, List.map_append]; exact hs'
   clear hs' hr
   repeat' (simp -dsimp -implicitDefEqProofs [*])
   exact Next.intro (k + 1, s') ⟨by simp only; omega, hs2⟩ (by simp only; omega) (by simp) (.refl _)
 ·have e : k = l.length := by omega
  subst e
  clear hround
  repeat' (simp -dsimp -implicitDefEqProofs [*])
  exact .same ⟨rfl, s, hs, rfl⟩
open Go.Pv Go.Pv.Ip
set_option maxRecDepth 100000
set_option maxHeartbeats 8000000
abbrev BM := KM Int Bool
abbrev BM.o (M : BM) : PObj := KM.obj k7o PV.bool M
def k64 (l : List Pt) (n : Nat) : BM := (l.take n).map fun p => (p.X, true)
theorem j3r {l : List Pt} (hg : GoodP (q56 l)) {n : Nat} (h : n < l.length) : KM.put (k64 l n) l[n].X true = k64 l (n + 1) := by
 have hno : KM.at? (k64 l n) l[n].X = none := by
  unfold KM.at?
  rw [List.findIdx?_eq_none_iff]
  intro y hy
  obtain ⟨q, hq, rfl⟩ := List.mem_map.1 hy
  obtain ⟨p, hp, rfl⟩ := List.mem_map.1 hq
  obtain ⟨j, hj, rfl⟩ := List.mem_iff_getElem.1 hp
  rw [List.length_take] at hj
  have := hg.ne n j (by rw [q71]; exact h) (by rw [q71]; omega) (by omega)
  rw [X, X, q8h h, q8h (show j < l.length by omega)] at this
  simp only at this
  rw [List.getElem_take]
  exact decide_eq_false this
 unfold KM.put
 rw [hno]
 unfold k64
 rw [List.take_succ_eq_append_getElem h, List.map_append]
 rfl
theorem z7d (z x : Int) : Cg ((z % Qi + (-(x % Qi)) % Qi) % Qi) (z - x) := by
 rw [Int.sub_eq_add_neg]
 exact (Cg.mod _).trans ((Cg.mod z).add ((Cg.mod _).trans (Cg.mod x).neg))
theorem z88 (c e z x : Int) : c * e % Qi % Qi * ((z % Qi + (-(x % Qi)) % Qi) % Qi % Qi) % Qi = c * (e * (z - x)) % Qi := by
 have : Cg (c * e % Qi % Qi * ((z % Qi + (-(x % Qi)) % Qi) % Qi % Qi)) (c * (e * (z - x))) := by
  rw [← Int.mul_assoc]
  exact Cg.mul ((Cg.mod _).trans (Cg.mod _)) ((Cg.mod _).trans (z7d z x))
 exact this
theorem j3s (e z x : Int) : e % Qi % Qi * ((z % Qi + (-(x % Qi)) % Qi) % Qi % Qi) % Qi = e * (z - x) % Qi := by
 have := z88 1 e z x
 rwa [Int.one_mul, Int.one_mul] at this
theorem j6l (t : Bool) (l : List Pt) (hl : l.length ≤ 24) (hg : GoodP (q56 l)) (z : Int) (st : q5d) : Rets P F.q40 [Pt.lst t l, .int z] st (.tuple [.int (atV (q56 l) z), .int 0]) := by
 have hX : Hid (∀ n (h : n < l.length), l[n].X % Qi = l[n].X) := ⟨fun n h => by
  have := hg.x n (by rw [q71]; exact h)
  rw [X, q8h h] at this
  exact Int.emod_eq_of_lt this.1 (by unfold Qi; omega)⟩
 have hS : Hid (∀ n (h : n < l.length), KM.put (k64 l n) l[n].X true = k64 l (n + 1)) := ⟨fun n h => j3r hg h⟩
 obtain ⟨W, hW⟩ : ∃ W, W = atV (q56 l) z := ⟨_, rfl⟩
 rw [← hW]
 have hl2 : ¬ (24 : Int) < l.length := by omega
 have kW := Hid.mk hW
 clear hW hg
 refine H.q40.view q5n rfl rfl ?_
 repeat' (first 
  | (with_reducible refine Fresh.intro fun b hb => ?_) <;> (try simp -dsimp -implicitDefEqProofs [*] at hb)
  | (simp -dsimp -implicitDefEqProofs [*]))
 revert b
 revert b
 intro q hq m hm
 refine q5g (fun n : Nat => [(0, Pt.lst t l), (3, .ptr q 0), (4, .int 0), (6, .val (.map (some m))), (20, Pt.lst t l), (21, .int l.length), (22, .int n)]) (fun n => (m, BM.o (k64 l n)) :: (q, .arr T.int [.int z]) :: st) (fun n => n ≤ l.length) (fun n => l.length - n) 0 (Nat.zero_le _) (by simp) (by simp [k64]; exact .refl _) ?_
 intro n hn
 by_cases hnl : n < l.length
 ·have hw := q5h (n := n) (by omega)
  have s0 := Pt.row_sub l n hnl
  have hk : n * 2 < l.length * 2 := by omega
  have hx := hX.out n hnl
  have hs := hS.out n hnl
  obtain ⟨p, hp⟩ : ∃ p, p = l[n] := ⟨_, rfl⟩
  rw [← hp] at s0 hx hs
  have cm := k2p p.X
  rw [hx] at cm
  have hput := KM.int_put PV.bool (k64 l n) p.X
  have ks : Hid _ := ⟨hs⟩
  obtain ⟨M, hM⟩ : ∃ M, M = k64 l n := ⟨_, rfl⟩
  rw [← hM] at hput ks ⊢
  clear hX hS kW hp hs hM hx
  repeat' (first 
   | (with_reducible refine Fresh.intro fun b hb => ?_) <;> (try simp -dsimp -implicitDefEqProofs [*] at hb)
   | (with_reducible refine Rets.xcall (cm _) ?_)
   | (simp -dsimp -implicitDefEqProofs [*]))
  exact Next.intro (n + 1) (by omega) (by omega) (by simp) (by rw [← ks.out]; exact q5q)
 ·obtain rfl : n = l.length := by omega
  have hlm : (k64 l l.length).length = l.length := by simp [k64]
  clear hX hS
  generalize k64 l l.length = M at *
  repeat' (simp -dsimp -implicitDefEqProofs [*])
  clear hnl hn hlm
  refine q5g (fun n : Nat => [(0, Pt.lst t l), (3, .ptr q 0), (4, .int (z3b (q56 l) z n % Qi)), (36, Pt.lst t l), (37, .int l.length), (38, .int n)]) (fun _ => (q, .arr T.int [.int z]) :: st) (fun n => n ≤ l.length) (fun n => l.length - n) 0 (Nat.zero_le _) (by simp [z3b]) q5q ?_
  intro n hn
  by_cases hnl : n < l.length
  ·have hw := q5h (n := n) (by omega)
   have s0 := Pt.row_sub l n hnl
   have hk : n * 2 < l.length * 2 := by omega
   have ht : Hid (z3b (q56 l) z (n + 1) = z3b (q56 l) z n + z63 (q56 l) z n) := ⟨rfl⟩
   have co := z5k t l n
   have hy := z3m t l (by omega) n
   have hent := H.q3s.enters
   have hpx : Hid ((q56 l).getD n (0, 0) = (l[n].X, l[n].Y)) := ⟨q8h hnl⟩
   obtain ⟨p, hp⟩ : ∃ p, p = l[n] := ⟨_, rfl⟩
   rw [← hp] at s0 hpx
   have cY := k2p p.Y
   obtain ⟨a0, ha0⟩ : ∃ a, a = p.Y % Qi := ⟨_, rfl⟩
   rw [← ha0] at cY
   replace ha0 := Hid.mk ha0
   obtain ⟨y, hyv⟩ : ∃ y, y = z3b (q56 l) z n % Qi := ⟨_, rfl⟩
   rw [← hyv]
   replace hyv := Hid.mk hyv
   clear kW hp
   repeat' (first 
    | (with_reducible refine Fresh.intro fun b hb => ?_) <;> (try simp -dsimp -implicitDefEqProofs [*] at hb)
    | (with_reducible refine Rets.xcall (cY _) ?_)
    | (with_reducible refine Rets.xcall (co _) ?_)
    | (simp -dsimp -implicitDefEqProofs [*]))
   revert b
   revert b
   revert b
   intro b1 hb1 b2 hb2 b3 hb3
   refine z6q hent fun key hkey lp hlp => ?_
   simp -dsimp -implicitDefEqProofs [*] at hlp
   refine q50 (hy (Int × Int) (fun s => (lp, .loop key _ .ready none) :: (b3, .arr T.int [.int s.2]) :: (b2, .arr T.int [.int s.1]) :: (b1, .arr T.apiPoint p.enc) :: (q, .arr T.int [.int z]) :: st)
    (fun pre s => Hid (∃ L : List Pt, L.map Pt.pv = pre ∧ s.1 = p.Y * k46 (fun r => z - r.X) L % Qi ∧ s.2 = k46 (fun r => p.X - r.X) L % Qi)) lp ?_ (a0, 1) ⟨[], rfl, by simp [k46, ha0.out], by simp [k46]; rfl⟩) ?_
   ·rintro pre x ⟨A, B⟩ hI hpx2
    obtain ⟨L, hL, hA, hB⟩ := hI.out
    obtain ⟨r, rfl, -⟩ := k9c hL hpx2
    simp only at hA hB
    have cm := k2p r.X
    have hr := k0c r.X
    have c1 := z7c z (-(r.X % Qi)) true
    have c2 := z7c p.X (-(r.X % Qi)) true
    have c3 := k6d A ((z % Qi + (-(r.X % Qi)) % Qi) % Qi)
    have c4 := k6d B ((p.X % Qi + (-(r.X % Qi)) % Qi) % Qi)
    have hwn : IntKind.i64.wrap (-(r.X % Qi)) = -(r.X % Qi) := q5m (by unfold Qi at *; omega) (by omega)
    have h1 : A % Qi * ((z % Qi + (-(r.X % Qi)) % Qi) % Qi % Qi) % Qi = p.Y * k46 (fun r => z - r.X) (L ++ [r]) % Qi := by
     rw [hA, k38, z88]
    have h2 : B % Qi * ((p.X % Qi + (-(r.X % Qi)) % Qi) % Qi % Qi) % Qi = k46 (fun r => p.X - r.X) (L ++ [r]) % Qi := by
     rw [hB, k38, j3s]
    obtain ⟨A', hA'⟩ : ∃ A', A' = A % Qi * ((z % Qi + (-(r.X % Qi)) % Qi) % Qi % Qi) % Qi := ⟨_, rfl⟩
    obtain ⟨B', hB'⟩ : ∃ B', B' = B % Qi * ((p.X % Qi + (-(r.X % Qi)) % Qi) % Qi % Qi) % Qi := ⟨_, rfl⟩
    rw [← hA'] at c3 h1
    rw [← hB'] at c4 h2
    have kk : Hid (∃ L' : List Pt, L'.map Pt.pv = pre ++ [r.pv] ∧ A' = p.Y * k46 (fun r => z - r.X) L' % Qi ∧ B' = k46 (fun r => p.X - r.X) L' % Qi) := ⟨L ++ [r], by simp [hL], h1, h2⟩
    generalize (z % Qi + (-(r.X % Qi)) % Qi) % Qi = s1 at *
    generalize (p.X % Qi + (-(r.X % Qi)) % Qi) % Qi = s2 at *
    generalize r.X % Qi = rr at *
    clear h1 h2 hA hB hA' hB' hI hL hpx2 hr
    refine z41 q5n hkey (by simp <;> rfl) rfl ?_
    clear hkey hy
    repeat' (first 
     | (with_reducible refine Fresh.intro fun b hb => ?_) <;> (try simp -dsimp -implicitDefEqProofs [*] at hb)
     | (with_reducible refine Rets.xcall (cm _) ?_)
     | (with_reducible refine Rets.xcall (c1 _) ?_)
     | (with_reducible refine Rets.xcall (c2 _) ?_)
     | (with_reducible refine Rets.xcall (c3 _) ?_)
     | (with_reducible refine Rets.xcall (c4 _) ?_)
     | (with_reducible refine DrawLate.intro [] ?_)
     | (simp -dsimp -implicitDefEqProofs [*]))
    exact ⟨_, q5q, A', B', kk, rfl⟩
   ·rintro e st' ⟨rfl, ⟨A, B⟩, hI, rfl⟩
    obtain ⟨L, hL, hA, hB⟩ := hI.out
    simp only at hA hB
    have hLo : L = oth l n l.length := (List.map_inj_right fun x y h => by cases x; cases y; simpa [Pt.enc] using h).1 hL
    subst hLo
    have c1 := z3l B
    have c2 := k6d A (k3l B)
    obtain ⟨v, hv⟩ : ∃ v, v = A % Qi * (k3l B % Qi) % Qi := ⟨_, rfl⟩
    rw [← hv] at c2
    have c3 := z7c y v true
    have hfin : (y % Qi + v % Qi) % Qi = z3b (q56 l) z (n + 1) % Qi := by
     have hYX : Ip.Y (q56 l) n = p.Y ∧ Ip.X (q56 l) n = p.X := by
      have := hpx.out
      exact ⟨congrArg Prod.snd this, congrArg Prod.fst this⟩
     have e1 : Cg v (z63 (q56 l) z n) := by
      rw [hv, hA, hB, j3q, j3q]
      unfold z63
      rw [hYX.1, hYX.2]
      exact (Cg.mod _).trans (Cg.mul ((Cg.mod _).trans (Cg.mod _)) ((Cg.mod _).trans (.of_eq (z1u (Cg.mod _)))))
     rw [ht.out, hyv.out]
     exact (((Cg.mod _).trans (Cg.mod _)).add ((Cg.mod v).trans e1)).emod
    rw [hfin] at c3
    have ks : Hid (z3b (q56 l) z (n + 1) % Qi = z3b (q56 l) z (n + 1) % Qi) := ⟨rfl⟩
    obtain ⟨I, hI2⟩ : ∃ I, I = k3l B := ⟨_, rfl⟩
    rw [← hI2] at c1 c2
    obtain ⟨E, hE⟩ : ∃ E, E = (if B % Qi = 0 then (120 : Int) else 0) := ⟨_, rfl⟩
    rw [← hE] at c1
    obtain ⟨S1, hS1⟩ : ∃ S, S = z3b (q56 l) z (n + 1) % Qi := ⟨_, rfl⟩
    rw [← hS1] at c3
    replace hS1 := Hid.mk hS1
    clear hfin hA hB hL hI hv hI2 hE ks hy ht hkey
    repeat' (first 
     | (with_reducible refine Rets.xcall (c1 _) ?_)
     | (with_reducible refine Rets.xcall (c2 _) ?_)
     | (with_reducible refine Rets.xcall (c3 _) ?_)
     | (with_reducible refine Lit.imm ?_)
     | (simp -dsimp -implicitDefEqProofs [*]))
    exact Next.intro (n + 1) (by omega) (by omega) (by simp [hS1.out]) q5q
  ·obtain rfl : n = l.length := by omega
   have e : W = z3b (q56 l) z l.length % Qi := by rw [kW.out, atV, q71]
   rw [← e]
   repeat' (simp -dsimp -implicitDefEqProofs [*])
   exact RetView.drop (st' := st) q5q ⟨rfl, rfl⟩
end Go.Proofs.YtnooplpbpfiapaaGreatDoor
