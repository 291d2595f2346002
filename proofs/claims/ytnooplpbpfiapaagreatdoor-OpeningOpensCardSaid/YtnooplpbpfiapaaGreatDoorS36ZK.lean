/- Calculating modulo the prime; values of a polynomial. -/
import Derived.Test.YtnooplpbpfiapaaGreatDoorS36X
import Derived.Test.YtnooplpbpfiapaaGreatDoorLIp
import Derived.Test.YtnooplpbpfiapaaGreatDoorLVf
namespace Go.Proofs.YtnooplpbpfiapaaGreatDoor
open Go.Pv Go.Pv.Sha Go.Pv.Ip
set_option maxRecDepth 100000
set_option maxHeartbeats 4000000
theorem y6u (n : Int) : n.tmod 1073741789 = n % 1073741789 ∨ (n.tmod 1073741789 = n % 1073741789 - 1073741789 ∧ n % 1073741789 ≠ 0) := by
 have h := @Int.tmod_eq_emod n 1073741789
 split at h
 ·left; simpa using h
 ·rename_i hn
  right
  refine ⟨by simpa using h, fun e => hn (.inr (Int.dvd_of_emod_eq_zero e))⟩
theorem k0p (n : Int) (st : q37) : Rets P F.q2q [.int n] st (.int (n % Qi)) := by
 refine H.q2q.pure q4m rfl rfl ?_
 have b := k3v n
 have hQ : n % Qi = n % 1073741789 := rfl
 have w1 : IntKind.i64.wrap (n % Qi) = n % Qi := q4h (by omega) (by unfold Qi at *; omega)
 rcases y6u n with h | ⟨h, h0⟩
 ·have e : n.tmod 1073741789 = n % Qi := h
  have hn : ¬ n % Qi < 0 := by omega
  clear b hQ h
  generalize n % Qi = m at *
  repeat' (simp -dsimp -implicitDefEqProofs [*])
 ·have w0 : IntKind.i64.wrap (n.tmod 1073741789) = n.tmod 1073741789 := q4h (by unfold Qi at *; omega) (by unfold Qi at *; omega)
  have hn : n.tmod 1073741789 < 0 := by unfold Qi at *; omega
  have e : n.tmod 1073741789 + 1073741789 = n % Qi := by unfold Qi at *; omega
  clear b hQ h h0
  generalize n % Qi = m at *
  generalize hk : n.tmod 1073741789 = k at *
  repeat' (simp -dsimp -implicitDefEqProofs [*])
theorem j8u (n : Int) (h : 0 ≤ n) : n.tmod 1073741789 = n % Qi := Int.tmod_eq_emod_of_nonneg h
theorem mulQ {x y : Int} (hx : 0 ≤ x ∧ x ≤ Qi) (hy : 0 ≤ y ∧ y ≤ Qi) : 0 ≤ x * y ∧ x * y ≤ 1152921430460400521 := by
 refine ⟨Int.mul_nonneg hx.1 hy.1, ?_⟩
 have := Int.mul_le_mul hx.2 hy.2 hy.1 (by decide : (0 : Int) ≤ Qi)
 unfold Qi at *
 omega
theorem k0q (a b : Int) (st : q37) : Rets P F.q21 [.int a, .int b] st (.int (a % Qi * (b % Qi) % Qi)) := by
 refine H.q21.pure q4m rfl rfl ?_
 have ha := k3v a
 have hb := k3v b
 have hm : ∀ n st, Rets P F.q2q [.int n] st (.int (n % Qi)) := fun n st => k0p n st
 have hm1 := fun st => hm a st
 have hm2 := fun st => hm b st
 clear hm
 generalize a % Qi = x at *
 generalize b % Qi = y at *
 have h := mulQ ⟨ha.1, by omega⟩ ⟨hb.1, by omega⟩
 have w1 : IntKind.i64.wrap (x * y) = x * y := q4h (by omega) (by omega)
 have e := j8u (x * y) h.1
 have m := k3v (x * y)
 have w2 : IntKind.i64.wrap (x * y % Qi) = x * y % Qi := q4h (by omega) (by unfold Qi at *; omega)
 clear ha hb h m
 repeat' (first 
  | (with_reducible refine Rets.xcall (hm1 _) ?_)
  | (with_reducible refine Rets.xcall (hm2 _) ?_)
  | (simp -dsimp -implicitDefEqProofs [*]))
theorem z1o (a b : Int) (t : Bool) (st : q37) : Rets P F.q3l [.list t [.int a, .int b] 2] st (.int ((a % Qi + b % Qi) % Qi)) := by
 refine H.q3l.pure q4m rfl rfl ?_
 have hm1 := fun st => k0p a st
 have hm2 := fun st => k0p b st
 have ha := k3v a
 have hb := k3v b
 have e1 : (0 + a % Qi).tmod 1073741789 = a % Qi := by rw [Int.zero_add, j8u _ ha.1]; exact Int.emod_eq_of_lt ha.1 ha.2
 generalize a % Qi = x at *
 generalize b % Qi = y at *
 have w1 : IntKind.i64.wrap x = x := q4h (by omega) (by unfold Qi at *; omega)
 have e0 : x.tmod 1073741789 = x := by simpa using e1
 have w2 : IntKind.i64.wrap (x + y) = x + y := q4h (by omega) (by unfold Qi at *; omega)
 have e2 : (x + y).tmod 1073741789 = (x + y) % Qi := j8u _ (by omega)
 have m := k3v (x + y)
 have w3 : IntKind.i64.wrap ((x + y) % Qi) = (x + y) % Qi := q4h (by omega) (by unfold Qi at *; omega)
 clear m ha hb e1
 have u1 : IntKind.i64.wrap 1 = 1 := by decide
 have u2 : IntKind.i64.wrap 2 = 2 := by decide
 repeat' (simp -dsimp -implicitDefEqProofs [*])
 refine q4e (fun i : Nat => [(3, .int (if i = 0 then 0 else if i = 1 then x else (x + y) % Qi)), (6, .list t [.int a, .int b] 2), (7, .int 2), (8, .int (i : Nat))]) (fun _ => st) (fun i => i ≤ 2) (fun i => 2 - i) 0 (by omega) (by simp) (.refl _) ?_
 intro i hi
 have : i = 0 ∨ i = 1 ∨ i = 2 := by omega
 rcases this with rfl | rfl | rfl
 ·repeat' (first 
   | (with_reducible refine Rets.xcall (hm1 _) ?_)
   | (simp -dsimp -implicitDefEqProofs [*]))
  exact Next.intro 1 (by omega) (by omega) (by simp) q4p
 ·repeat' (first 
   | (with_reducible refine Rets.xcall (hm2 _) ?_)
   | (simp -dsimp -implicitDefEqProofs [*]))
  exact Next.intro 2 (by omega) (by omega) (by simp) q4p
 ·repeat' (simp -dsimp -implicitDefEqProofs [*])
theorem z8s (t : Bool) (poly : List Int) (hp : poly.length ≤ 1000) (x : Int) (st : q37) : Rets P F.q3q [q4b t poly, .int x] st (.int (ev poly x % Qi)) := by
 refine H.q3q.pure q4m rfl rfl ?_
 repeat' (simp -dsimp -implicitDefEqProofs [*])
 refine q4e (fun i : Nat => [(1, .int x), (4, .int (ev (poly.take i) x % Qi)), (5, .int (if i = 0 then 1 else x ^ i % Qi)), (8, q4b t poly), (9, .int poly.length), (10, .int (i : Nat))]) (fun _ => st) (fun i => i ≤ poly.length) (fun i => poly.length - i) 0 (by omega) (by simp [ev]) (.refl _) ?_
 intro i hi
 by_cases hil : i < poly.length
 ·have hg := q5a poly i hil
  have hwi := q4d (n := i) (by omega)
  have hpw : (if i = 0 then (1 : Int) else x ^ i % Qi) = x ^ i % Qi := by
   split
   ·rename_i h; subst h; rw [Int.pow_zero]; decide
   ·rfl
  have m1 := fun st => k0q poly[i] (x ^ i % Qi) st
  have s1 := fun st => z1o (ev (poly.take i) x % Qi) (poly[i] % Qi * (x ^ i % Qi % Qi) % Qi) true st
  have m2 := fun st => k0q (x ^ i % Qi) x st
  have e1 : (ev (poly.take i) x % Qi % Qi + poly[i] % Qi * (x ^ i % Qi % Qi) % Qi % Qi) % Qi = ev (poly.take (i + 1)) x % Qi := by
   rw [List.take_succ_eq_append_getElem hil, j73, List.length_take, Nat.min_eq_left (by omega)]
   rw [Int.mul_comm (x ^ i)]
   simp only [Int.emod_emod_of_dvd _ (Int.dvd_refl Qi)]
   rw [← Int.mul_emod, ← Int.add_emod]
  have e2 : x ^ i % Qi % Qi * (x % Qi) % Qi = (if i + 1 = 0 then (1 : Int) else x ^ (i + 1) % Qi) := by
   rw [if_neg (by omega), Int.pow_succ]
   simp only [Int.emod_emod_of_dvd _ (Int.dvd_refl Qi)]
   rw [← Int.mul_emod]
  rw [e1] at s1
  rw [e2] at m2
  rw [hpw]
  generalize poly[i] % Qi * (x ^ i % Qi % Qi) % Qi = A at *
  generalize ev (poly.take i) x % Qi = B at *
  generalize hC : ev (poly.take (i + 1)) x % Qi = C at *
  generalize x ^ i % Qi = D at *
  generalize hE : (if i + 1 = 0 then (1 : Int) else x ^ (i + 1) % Qi) = E at *
  clear e1 e2
  repeat' (first 
   | (with_reducible refine Rets.xcall (m1 _) ?_)
   | (with_reducible refine Rets.xcall (s1 _) ?_)
   | (with_reducible refine Rets.xcall (m2 _) ?_)
   | (with_reducible refine Lit.imm ?_)
   | (simp -dsimp -implicitDefEqProofs [*]))
  exact Next.intro (i + 1) (by omega) (by omega) (by simp only [hC, hE]; simp) q4p
 ·have e : i = poly.length := by omega
  subst e
  rw [List.take_length]
  repeat' (simp -dsimp -implicitDefEqProofs [*])
open Go.Pv Go.Pv.Ip
set_option maxRecDepth 100000
set_option maxHeartbeats 4000000
theorem z8t (f : Nat) (c n : Int) : k1i f c n 0 = c := by
 cases f with
 | zero => rfl
 | succ f => rw [k1i, if_neg (by decide)]
theorem k45 {f : Nat} {c n k : Int} (hk : 0 < k) : k1i (f + 1) c n k = k1i f (if k % 2 = 1 then c % Qi * (n % Qi) % Qi else c) (n % Qi * (n % Qi) % Qi) (k / 2) := by
 rw [k1i, if_pos hk, ← Int.mul_emod, ← Int.mul_emod]
theorem j4p (n : Int) : k1i 31 1 n (Qi - 2) = k6c n := by
 unfold k6c
 rw [k45 (f := 30) (n := n) (by decide), k45 (f := 30) (n := n % Qi) (by decide), Int.emod_emod_of_dvd n (Int.dvd_refl Qi)]
theorem j1t {n : Int} (h : n % Qi = 0) : k6c n = 0 := by
 unfold k6c
 rw [h]
 decide +kernel
theorem z1p (n : Int) (st : q37) : Rets P F.q3a [.int n] st (.tuple [.int (k6c n), .int (if n % Qi = 0 then 120 else 0)]) := by
 have cm := k0p n
 by_cases h0 : n % Qi = 0
 ·rw [if_pos h0, j1t h0]
  rw [h0] at cm
  refine H.q3a.pure q4m rfl rfl ?_
  repeat' (first 
   | (with_reducible refine Rets.xcall (cm _) ?_)
   | (simp -dsimp -implicitDefEqProofs [*]))
 rw [if_neg h0]
 have hp := j4p n
 obtain ⟨R, hR⟩ : ∃ R, R = k6c n := ⟨_, rfl⟩
 rw [← hR] at hp ⊢
 obtain ⟨r, hr⟩ : ∃ r, r = n % Qi := ⟨_, rfl⟩
 rw [← hr] at cm h0
 clear hR hr
 refine H.q3a.view q4m rfl rfl ?_
 have hp := Hid.mk hp
 repeat' (first 
  | (with_reducible refine Rets.xcall (cm _) ?_)
  | (simp -dsimp -implicitDefEqProofs [*]))
 refine q4e (fun y : Nat × Int × Int × Int => [(0, .int n), (2, .int y.2.1), (4, .int y.2.2.2), (5, .int y.2.2.1)]) (fun _ => st) (fun y => (0 ≤ y.2.2.2 ∧ y.2.2.2 < 2 ^ y.1 ∧ y.2.2.2 ≤ 1073741787) ∧ Hid (k1i y.1 y.2.1 y.2.2.1 y.2.2.2 = R)) (fun y => y.2.2.2.toNat) (31, 1, n, 1073741787) ⟨show (0 : Int) ≤ 1073741787 ∧ (1073741787 : Int) < 2 ^ 31 ∧ (1073741787 : Int) ≤ 1073741787 by decide, hp⟩ (by simp) (.refl _) ?_
 rintro ⟨f, c, m, k⟩ ⟨⟨hk0, hkf, hkm⟩, hI⟩
 simp only at hk0 hkf hkm
 replace hI : Hid (k1i f c m k = R) := hI
 by_cases hk : k = 0
 ·subst hk
  have e := hI.out
  rw [z8t] at e
  subst e
  clear hI hp
  repeat' (simp -dsimp -implicitDefEqProofs [*])
  exact .same ⟨rfl, rfl⟩
 ·cases f with
  | zero => simp at hkf; omega
  | succ f =>
   have e := hI.out
   rw [k45 (by omega)] at e
   have t1 : k.tmod 2 = k % 2 := Int.tmod_eq_emod_of_nonneg hk0
   have t2 : k.tdiv 2 = k / 2 := Int.tdiv_eq_ediv_of_nonneg hk0
   have w1 : IntKind.i64.wrap (k % 2) = k % 2 := q4h (by omega) (by omega)
   have w2 : IntKind.i64.wrap (k / 2) = k / 2 := q4h (by omega) (by omega)
   have c1 := k0q c m
   have c2 := k0q m m
   have hkf2 : k / 2 < 2 ^ f := by
    rw [Int.pow_succ] at hkf
    omega
   have hkk : 0 ≤ k / 2 ∧ k / 2 ≤ 1073741787 ∧ (k / 2).toNat < k.toNat := by omega
   obtain ⟨A, hA⟩ : ∃ A, A = c % Qi * (m % Qi) % Qi := ⟨_, rfl⟩
   obtain ⟨B, hB⟩ : ∃ B, B = m % Qi * (m % Qi) % Qi := ⟨_, rfl⟩
   rw [← hA, ← hB] at e
   rw [← hA] at c1
   rw [← hB] at c2
   obtain ⟨q, hq⟩ : ∃ q, q = k / 2 := ⟨_, rfl⟩
   rw [← hq] at e hkf2 hkk t2 w2
   clear hA hB hI hp hq hkf
   by_cases hb : k % 2 = 1
   ·rw [if_pos hb] at e
    have e := Hid.mk e
    rw [hb] at t1
    clear hb w1
    repeat' (first 
     | (with_reducible refine Rets.xcall (c1 _) ?_)
     | (with_reducible refine Rets.xcall (c2 _) ?_)
     | (simp -dsimp -implicitDefEqProofs [*]))
    exact Next.intro (f, A, B, q) ⟨⟨hkk.1, hkf2, hkk.2.1⟩, e⟩ (by simp only; omega) (by simp) q4p
   ·rw [if_neg hb] at e
    have e := Hid.mk e
    have hb0 : k % 2 = 0 := by omega
    rw [hb0] at t1
    clear hb hb0 w1
    repeat' (first 
     | (with_reducible refine Rets.xcall (c2 _) ?_)
     | (simp -dsimp -implicitDefEqProofs [*]))
    exact Next.intro (f, c, B, q) ⟨⟨hkk.1, hkf2, hkk.2.1⟩, e⟩ (by simp only; omega) (by simp) q4p
open Go.Pv Go.Pv.Ip
set_option maxRecDepth 100000
set_option maxHeartbeats 4000000
structure Pt where
 X : Int
 Y : Int
 deriving DecidableEq, Inhabited
def Pt.enc (x : Pt) : List PV := [.int x.X, .int x.Y]
abbrev Pt.pv (x : Pt) : PV := .agg x.enc
@[simp] theorem Pt.len (x : Pt) : x.enc.length = 2 := rfl
@[simp] theorem Pt.subAll (x : Pt) : sub x.enc 0 2 = some x.enc := rfl
@[simp] theorem Pt.get0 (x : Pt) : x.enc[0]? = some (.int x.X) := rfl
@[simp] theorem Pt.getE0 (x : Pt) (h : 0 < x.enc.length) : x.enc[0]'h = .int x.X := rfl
@[simp] theorem Pt.set0 (x : Pt) (v : Int) : List.set x.enc 0 (.int v) = (Pt.mk v x.Y).enc := rfl
@[simp] theorem Pt.get1 (x : Pt) : x.enc[1]? = some (.int x.Y) := rfl
@[simp] theorem Pt.getE1 (x : Pt) (h : 1 < x.enc.length) : x.enc[1]'h = .int x.Y := rfl
@[simp] theorem Pt.set1 (x : Pt) (v : Int) : List.set x.enc 1 (.int v) = (Pt.mk x.X v).enc := rfl
@[simp] theorem Pt.fz (b : Nat) (o : PObj) (k : Nat) (x : Pt) : k0j b o k x.enc = x.enc := rfl
@[simp] theorem Pt.fill (x y : Pt) : q4a x.enc 0 y.enc = y.enc := rfl
@[simp] theorem Pt.key (x : Pt) : PV.vals? x.enc = some [.int .i64 x.X, .int .i64 x.Y] := rfl
def Pt.row (l : List Pt) : List PV := l.flatMap Pt.enc
abbrev Pt.lst (t : Bool) (l : List Pt) : PV := .list t (Pt.row l) l.length
@[simp] theorem Pt.row_len (l : List Pt) : (Pt.row l).length = l.length * 2 := q5m Pt.enc 2 Pt.len l
@[simp] theorem Pt.row_nil : Pt.row [] = [] := rfl
@[simp] theorem Pt.row_cons (x : Pt) (l : List Pt) : Pt.row (x :: l) = x.enc ++ Pt.row l := rfl
theorem Pt.row_append (l m : List Pt) : Pt.row (l ++ m) = Pt.row l ++ Pt.row m := by simp [Pt.row]
@[simp] theorem Pt.row_sub (l : List Pt) (i : Nat) (h : i < l.length) : sub (Pt.row l) (i * 2) 2 = some (l[i]).enc := k0i Pt.enc 2 Pt.len l i h
theorem Pt.row_drop (l : List Pt) (i : Nat) : (Pt.row l).drop (i * 2) = Pt.row (l.drop i) := k1d Pt.enc 2 Pt.len l i
theorem Pt.row_take (l : List Pt) (i : Nat) : (Pt.row l).take (i * 2) = Pt.row (l.take i) := k64 Pt.enc 2 Pt.len l i
theorem Pt.row_fz (b : Nat) (o : PObj) (k : Nat) (l : List Pt) : k0j b o k (Pt.row l) = Pt.row l := k4q Pt.enc Pt.fz b o k l
attribute [simp] Pt.row_fz
def q57 (l : List Pt) : List (Int × Int) := l.map fun p => (p.X, p.Y)
theorem q7o (l : List Pt) : (q57 l).length = l.length := by simp [q57]
theorem q8r {l : List Pt} {i : Nat} (h : i < l.length) : (q57 l).getD i (0, 0) = (l[i].X, l[i].Y) := by simp [q57, h]
def oth (l : List Pt) (i : Nat) : Nat → List Pt
 | 0 => []
 | k + 1 => if k = i then oth l i k else oth l i k ++ [l.getD k default]
theorem j1u (l : List Pt) (i : Nat) {k : Nat} : ∀ {n : Nat}, k ≤ n → oth l i k <+: oth l i n
 | 0, h => by
  have : k = 0 := by omega
  subst this
  exact List.prefix_rfl
 | n + 1, h => by
  by_cases e : k = n + 1
  ·subst e; exact List.prefix_rfl
  ·have ih := j1u l i (k := k) (n := n) (by omega)
   rw [oth]
   split
   ·exact ih
   ·exact ih.trans (List.prefix_append _ _)
def k21 (f : Pt → Int) : List Pt → Int
 | [] => 1
 | p :: l => f p * k21 f l
theorem k14 (f : Pt → Int) : ∀ (l : List Pt) (p : Pt), k21 f (l ++ [p]) = k21 f l * f p
 | [], p => by simp [k21]
 | q :: l, p => by
  have := k14 f l p
  simp only [List.cons_append, k21, this]
  rw [Int.mul_assoc]
theorem z3b (f : Pt → Int) (l : List Pt) (i : Nat) : ∀ k, k21 f (oth l i k) = k0l (fun k => f (l.getD k default)) i k
 | 0 => rfl
 | k + 1 => by
  have ih := z3b f l i k
  rw [oth, k0l]
  split
  ·exact ih
  ·rw [k14, ih]
theorem k7x {f g : Nat → Int} {i : Nat} : ∀ {n : Nat} (_ : ∀ k, k < n → f k = g k), k0l f i n = k0l g i n
 | 0, _ => rfl
 | n + 1, h => by
  have ih := k7x (f := f) (g := g) (i := i) (n := n) fun k hk => h k (by omega)
  simp only [k0l, ih, h n (by omega)]
theorem j1v (l : List Pt) (i : Nat) (z : Int) : k21 (fun p => z - p.X) (oth l i l.length) = k0l (fun k => z - Ip.X (q57 l) k) i (q57 l).length := by
 rw [z3b, q7o]
 refine k7x fun k hk => ?_
 show z - (l.getD k default).X = z - ((q57 l).getD k (0, 0)).1
 rw [q8r hk]
 simp [hk]
theorem z3c (t : Bool) (l : List Pt) (i : Int) (st : q37) : Rets P F.q3o [Pt.lst t l, .int i] st (.func (.func F.q2u) [] [.iptr [Pt.lst t l] 0, .iptr [.int i] 0]) := by
 refine H.q3o.view q4m rfl rfl ?_
 repeat' (first 
  | (with_reducible refine Fresh.intro fun b hb => ?_) <;> (try simp -dsimp -implicitDefEqProofs [*] at hb)
  | (with_reducible refine RetView.fz 1 ?_ ?_)
  | (with_reducible refine RetView.same ?_)
  | (simp -dsimp -implicitDefEqProofs [*]))
theorem z1q (t : Bool) (l : List Pt) (hl : l.length ≤ 100000) (i : Nat) : y2u P F.q2u [] [.iptr [Pt.lst t l] 0, .iptr [.int (i : Int)] 0] ((oth l i l.length).map Pt.pv) := by
 intro σ S inv lp hround s hs
 refine H.q2u.view q4m rfl rfl ?_
 repeat' (simp -dsimp -implicitDefEqProofs [*])
 refine q4e (fun y : Nat × σ => [(0, .func (.yield lp) [] []), (1, .iptr [Pt.lst t l] 0), (2, .iptr [.int (i : Int)] 0), (6, Pt.lst t l), (7, .int l.length), (8, .int y.1)]) (fun y => S y.2)
  (fun y => y.1 ≤ l.length ∧ inv ((oth l i y.1).map Pt.pv) y.2) (fun y => l.length - y.1) (0, s) ⟨Nat.zero_le _, by simpa [oth] using hs⟩ (by simp) (.refl _) ?_
 clear hs
 rintro ⟨k, s⟩ ⟨hk, hs⟩
 simp only at hk hs
 by_cases hkl : k < l.length
 ·have hw := q4d (n := k) (by omega)
  have s0 := Pt.row_sub l k hkl
  have hk2 : k * 2 < l.length * 2 := by omega
  have hpre := (j1u l i (k := k + 1) (n := l.length) (by omega)).map Pt.pv
  rw [oth] at hpre
  obtain ⟨x, hx⟩ : ∃ x, x = l[k] := ⟨_, rfl⟩
  have hxd : l.getD k default = x := by simp [hx, hkl]
  rw [← hx] at s0
  rw [hxd] at hpre
  clear hx
  by_cases hki : k = i
  ·rw [if_pos hki] at hpre
   have hs2 : inv ((oth l i (k + 1)).map Pt.pv) s := by rw [oth, if_pos hki]; exact hs
   subst hki
   clear hs hpre hround
   repeat' (first 
    | (with_reducible refine Fresh.intro fun b hb => ?_) <;> (try simp -dsimp -implicitDefEqProofs [*] at hb)
    | (simp -dsimp -implicitDefEqProofs [*]))
   exact Next.intro (k + 1, s) ⟨by simp only; omega, hs2⟩ (by simp only; omega) (by simp) q4p
  ·rw [if_neg hki, List.map_append] at hpre
   have hki2 : ¬ (k : Int) = i := by omega
   have hr := hround _ x.pv s hs hpre
   clear hround hpre hs
   repeat' (first 
    | (with_reducible refine Fresh.intro fun b hb => ?_) <;> (try simp -dsimp -implicitDefEqProofs [*] at hb)
    | (simp -dsimp -implicitDefEqProofs [*]))
   refine z4j (PRound.le (.fresh hb) hr) fun e st' hq => ?_
   obtain ⟨rfl, s', hs', rfl⟩ := hq
   have hs2 : inv ((oth l i (k + 1)).map Pt.pv) s' := by rw [oth, if_neg hki, hxd, List.map_append]; exact hs'
   clear hs' hr
   repeat' (simp -dsimp -implicitDefEqProofs [*])
   exact Next.intro (k + 1, s') ⟨by simp only; omega, hs2⟩ (by simp only; omega) (by simp) (.refl _)
 ·have e : k = l.length := by omega
  subst e
  clear hround
  repeat' (simp -dsimp -implicitDefEqProofs [*])
  exact .same ⟨rfl, s, hs, rfl⟩
open Go.Pv Go.Pv.Ip
set_option maxRecDepth 100000
set_option maxHeartbeats 8000000
abbrev BM := KM Int Bool
abbrev BM.o (M : BM) : PObj := KM.obj k5o PV.bool M
def k46 (l : List Pt) (n : Nat) : BM := (l.take n).map fun p => (p.X, true)
theorem j1w {l : List Pt} (hg : GoodP (q57 l)) {n : Nat} (h : n < l.length) : KM.put (k46 l n) l[n].X true = k46 l (n + 1) := by
 have hno : KM.at? (k46 l n) l[n].X = none := by
  unfold KM.at?
  rw [List.findIdx?_eq_none_iff]
  intro y hy
  obtain ⟨q, hq, rfl⟩ := List.mem_map.1 hy
  obtain ⟨p, hp, rfl⟩ := List.mem_map.1 hq
  obtain ⟨j, hj, rfl⟩ := List.mem_iff_getElem.1 hp
  rw [List.length_take] at hj
  have := hg.ne n j (by rw [q7o]; exact h) (by rw [q7o]; omega) (by omega)
  rw [X, X, q8r h, q8r (show j < l.length by omega)] at this
  simp only at this
  rw [List.getElem_take]
  exact decide_eq_false this
 unfold KM.put
 rw [hno]
 unfold k46
 rw [List.take_succ_eq_append_getElem h, List.map_append]
 rfl
theorem j8v (z x : Int) : Cg ((z % Qi + (-(x % Qi)) % Qi) % Qi) (z - x) := by
 rw [Int.sub_eq_add_neg]
 exact (Cg.mod _).trans ((Cg.mod z).add ((Cg.mod _).trans (Cg.mod x).neg))
theorem z63 (c e z x : Int) : c * e % Qi % Qi * ((z % Qi + (-(x % Qi)) % Qi) % Qi % Qi) % Qi = c * (e * (z - x)) % Qi := by
 have : Cg (c * e % Qi % Qi * ((z % Qi + (-(x % Qi)) % Qi) % Qi % Qi)) (c * (e * (z - x))) := by
  rw [← Int.mul_assoc]
  exact Cg.mul ((Cg.mod _).trans (Cg.mod _)) ((Cg.mod _).trans (j8v z x))
 exact this
theorem j1x (e z x : Int) : e % Qi % Qi * ((z % Qi + (-(x % Qi)) % Qi) % Qi % Qi) % Qi = e * (z - x) % Qi := by
 have := z63 1 e z x
 rwa [Int.one_mul, Int.one_mul] at this
theorem j4q (t : Bool) (l : List Pt) (hl : l.length ≤ 24) (hg : GoodP (q57 l)) (z : Int) (st : q37) : Rets P F.q3t [Pt.lst t l, .int z] st (.tuple [.int (atV (q57 l) z), .int 0]) := by
 have hX : Hid (∀ n (h : n < l.length), l[n].X % Qi = l[n].X) := ⟨fun n h => by
  have := hg.x n (by rw [q7o]; exact h)
  rw [X, q8r h] at this
  exact Int.emod_eq_of_lt this.1 (by unfold Qi; omega)⟩
 have hS : Hid (∀ n (h : n < l.length), KM.put (k46 l n) l[n].X true = k46 l (n + 1)) := ⟨fun n h => j1w hg h⟩
 obtain ⟨W, hW⟩ : ∃ W, W = atV (q57 l) z := ⟨_, rfl⟩
 rw [← hW]
 have hl2 : ¬ (24 : Int) < l.length := by omega
 have kW := Hid.mk hW
 clear hW hg
 refine H.q3t.view q4m rfl rfl ?_
 repeat' (first 
  | (with_reducible refine Fresh.intro fun b hb => ?_) <;> (try simp -dsimp -implicitDefEqProofs [*] at hb)
  | (simp -dsimp -implicitDefEqProofs [*]))
 revert b
 revert b
 intro q hq m hm
 refine q4e (fun n : Nat => [(0, Pt.lst t l), (3, .ptr q 0), (4, .int 0), (6, .val (.map (some m))), (20, Pt.lst t l), (21, .int l.length), (22, .int n)]) (fun n => (m, BM.o (k46 l n)) :: (q, .arr T.int [.int z]) :: st) (fun n => n ≤ l.length) (fun n => l.length - n) 0 (Nat.zero_le _) (by simp) (by simp [k46]; exact .refl _) ?_
 intro n hn
 by_cases hnl : n < l.length
 ·have hw := q4d (n := n) (by omega)
  have s0 := Pt.row_sub l n hnl
  have hk : n * 2 < l.length * 2 := by omega
  have hx := hX.out n hnl
  have hs := hS.out n hnl
  obtain ⟨p, hp⟩ : ∃ p, p = l[n] := ⟨_, rfl⟩
  rw [← hp] at s0 hx hs
  have cm := k0p p.X
  rw [hx] at cm
  have hput := KM.int_put PV.bool (k46 l n) p.X
  have ks : Hid _ := ⟨hs⟩
  obtain ⟨M, hM⟩ : ∃ M, M = k46 l n := ⟨_, rfl⟩
  rw [← hM] at hput ks ⊢
  clear hX hS kW hp hs hM hx
  repeat' (first 
   | (with_reducible refine Fresh.intro fun b hb => ?_) <;> (try simp -dsimp -implicitDefEqProofs [*] at hb)
   | (with_reducible refine Rets.xcall (cm _) ?_)
   | (simp -dsimp -implicitDefEqProofs [*]))
  exact Next.intro (n + 1) (by omega) (by omega) (by simp) (by rw [← ks.out]; exact q4p)
 ·obtain rfl : n = l.length := by omega
  have hlm : (k46 l l.length).length = l.length := by simp [k46]
  clear hX hS
  generalize k46 l l.length = M at *
  repeat' (simp -dsimp -implicitDefEqProofs [*])
  clear hnl hn hlm
  refine q4e (fun n : Nat => [(0, Pt.lst t l), (3, .ptr q 0), (4, .int (z24 (q57 l) z n % Qi)), (36, Pt.lst t l), (37, .int l.length), (38, .int n)]) (fun _ => (q, .arr T.int [.int z]) :: st) (fun n => n ≤ l.length) (fun n => l.length - n) 0 (Nat.zero_le _) (by simp [z24]) q4p ?_
  intro n hn
  by_cases hnl : n < l.length
  ·have hw := q4d (n := n) (by omega)
   have s0 := Pt.row_sub l n hnl
   have hk : n * 2 < l.length * 2 := by omega
   have ht : Hid (z24 (q57 l) z (n + 1) = z24 (q57 l) z n + z07 (q57 l) z n) := ⟨rfl⟩
   have co := z3c t l n
   have hy := z1q t l (by omega) n
   have hent := H.q2u.enters
   have hpx : Hid ((q57 l).getD n (0, 0) = (l[n].X, l[n].Y)) := ⟨q8r hnl⟩
   obtain ⟨p, hp⟩ : ∃ p, p = l[n] := ⟨_, rfl⟩
   rw [← hp] at s0 hpx
   have cY := k0p p.Y
   obtain ⟨a0, ha0⟩ : ∃ a, a = p.Y % Qi := ⟨_, rfl⟩
   rw [← ha0] at cY
   replace ha0 := Hid.mk ha0
   obtain ⟨y, hyv⟩ : ∃ y, y = z24 (q57 l) z n % Qi := ⟨_, rfl⟩
   rw [← hyv]
   replace hyv := Hid.mk hyv
   clear kW hp
   repeat' (first 
    | (with_reducible refine Fresh.intro fun b hb => ?_) <;> (try simp -dsimp -implicitDefEqProofs [*] at hb)
    | (with_reducible refine Rets.xcall (cY _) ?_)
    | (with_reducible refine Rets.xcall (co _) ?_)
    | (simp -dsimp -implicitDefEqProofs [*]))
   revert b
   revert b
   revert b
   intro b1 hb1 b2 hb2 b3 hb3
   refine z4d hent fun key hkey lp hlp => ?_
   simp -dsimp -implicitDefEqProofs [*] at hlp
   refine q4w (hy (Int × Int) (fun s => (lp, .loop key _ .ready none) :: (b3, .arr T.int [.int s.2]) :: (b2, .arr T.int [.int s.1]) :: (b1, .arr T.apiPoint p.enc) :: (q, .arr T.int [.int z]) :: st)
    (fun pre s => Hid (∃ L : List Pt, L.map Pt.pv = pre ∧ s.1 = p.Y * k21 (fun r => z - r.X) L % Qi ∧ s.2 = k21 (fun r => p.X - r.X) L % Qi)) lp ?_ (a0, 1) ⟨[], rfl, by simp [k21, ha0.out], by simp [k21]; rfl⟩) ?_
   ·rintro pre x ⟨A, B⟩ hI hpx2
    obtain ⟨L, hL, hA, hB⟩ := hI.out
    obtain ⟨r, rfl, -⟩ := k67 hL hpx2
    simp only at hA hB
    have cm := k0p r.X
    have hr := k3v r.X
    have c1 := z1o z (-(r.X % Qi)) true
    have c2 := z1o p.X (-(r.X % Qi)) true
    have c3 := k0q A ((z % Qi + (-(r.X % Qi)) % Qi) % Qi)
    have c4 := k0q B ((p.X % Qi + (-(r.X % Qi)) % Qi) % Qi)
    have hwn : IntKind.i64.wrap (-(r.X % Qi)) = -(r.X % Qi) := q4h (by unfold Qi at *; omega) (by omega)
    have h1 : A % Qi * ((z % Qi + (-(r.X % Qi)) % Qi) % Qi % Qi) % Qi = p.Y * k21 (fun r => z - r.X) (L ++ [r]) % Qi := by
     rw [hA, k14, z63]
    have h2 : B % Qi * ((p.X % Qi + (-(r.X % Qi)) % Qi) % Qi % Qi) % Qi = k21 (fun r => p.X - r.X) (L ++ [r]) % Qi := by
     rw [hB, k14, j1x]
    obtain ⟨A', hA'⟩ : ∃ A', A' = A % Qi * ((z % Qi + (-(r.X % Qi)) % Qi) % Qi % Qi) % Qi := ⟨_, rfl⟩
    obtain ⟨B', hB'⟩ : ∃ B', B' = B % Qi * ((p.X % Qi + (-(r.X % Qi)) % Qi) % Qi % Qi) % Qi := ⟨_, rfl⟩
    rw [← hA'] at c3 h1
    rw [← hB'] at c4 h2
    have kk : Hid (∃ L' : List Pt, L'.map Pt.pv = pre ++ [r.pv] ∧ A' = p.Y * k21 (fun r => z - r.X) L' % Qi ∧ B' = k21 (fun r => p.X - r.X) L' % Qi) := ⟨L ++ [r], by simp [hL], h1, h2⟩
    generalize (z % Qi + (-(r.X % Qi)) % Qi) % Qi = s1 at *
    generalize (p.X % Qi + (-(r.X % Qi)) % Qi) % Qi = s2 at *
    generalize r.X % Qi = rr at *
    clear h1 h2 hA hB hA' hB' hI hL hpx2 hr
    refine z2u q4m hkey (by simp <;> rfl) rfl ?_
    clear hkey hy
    repeat' (first 
     | (with_reducible refine Fresh.intro fun b hb => ?_) <;> (try simp -dsimp -implicitDefEqProofs [*] at hb)
     | (with_reducible refine Rets.xcall (cm _) ?_)
     | (with_reducible refine Rets.xcall (c1 _) ?_)
     | (with_reducible refine Rets.xcall (c2 _) ?_)
     | (with_reducible refine Rets.xcall (c3 _) ?_)
     | (with_reducible refine Rets.xcall (c4 _) ?_)
     | (with_reducible refine DrawLate.intro [] ?_)
     | (simp -dsimp -implicitDefEqProofs [*]))
    exact ⟨_, q4p, A', B', kk, rfl⟩
   ·rintro e st' ⟨rfl, ⟨A, B⟩, hI, rfl⟩
    obtain ⟨L, hL, hA, hB⟩ := hI.out
    simp only at hA hB
    have hLo : L = oth l n l.length := (List.map_inj_right fun x y h => by cases x; cases y; simpa [Pt.enc] using h).1 hL
    subst hLo
    have c1 := z1p B
    have c2 := k0q A (k6c B)
    obtain ⟨v, hv⟩ : ∃ v, v = A % Qi * (k6c B % Qi) % Qi := ⟨_, rfl⟩
    rw [← hv] at c2
    have c3 := z1o y v true
    have hfin : (y % Qi + v % Qi) % Qi = z24 (q57 l) z (n + 1) % Qi := by
     have hYX : Ip.Y (q57 l) n = p.Y ∧ Ip.X (q57 l) n = p.X := by
      have := hpx.out
      exact ⟨congrArg Prod.snd this, congrArg Prod.fst this⟩
     have e1 : Cg v (z07 (q57 l) z n) := by
      rw [hv, hA, hB, j1v, j1v]
      unfold z07
      rw [hYX.1, hYX.2]
      exact (Cg.mod _).trans (Cg.mul ((Cg.mod _).trans (Cg.mod _)) ((Cg.mod _).trans (.of_eq (z72 (Cg.mod _)))))
     rw [ht.out, hyv.out]
     exact (((Cg.mod _).trans (Cg.mod _)).add ((Cg.mod v).trans e1)).emod
    rw [hfin] at c3
    have ks : Hid (z24 (q57 l) z (n + 1) % Qi = z24 (q57 l) z (n + 1) % Qi) := ⟨rfl⟩
    obtain ⟨I, hI2⟩ : ∃ I, I = k6c B := ⟨_, rfl⟩
    rw [← hI2] at c1 c2
    obtain ⟨E, hE⟩ : ∃ E, E = (if B % Qi = 0 then (120 : Int) else 0) := ⟨_, rfl⟩
    rw [← hE] at c1
    obtain ⟨S1, hS1⟩ : ∃ S, S = z24 (q57 l) z (n + 1) % Qi := ⟨_, rfl⟩
    rw [← hS1] at c3
    replace hS1 := Hid.mk hS1
    clear hfin hA hB hL hI hv hI2 hE ks hy ht hkey
    repeat' (first 
     | (with_reducible refine Rets.xcall (c1 _) ?_)
     | (with_reducible refine Rets.xcall (c2 _) ?_)
     | (with_reducible refine Rets.xcall (c3 _) ?_)
     | (with_reducible refine Lit.imm ?_)
     | (simp -dsimp -implicitDefEqProofs [*]))
    exact Next.intro (n + 1) (by omega) (by omega) (by simp [hS1.out]) q4p
  ·obtain rfl : n = l.length := by omega
   have e : W = z24 (q57 l) z l.length % Qi := by rw [kW.out, atV, q7o]
   rw [← e]
   repeat' (simp -dsimp -implicitDefEqProofs [*])
   exact RetView.drop (st' := st) q4p ⟨rfl, rfl⟩
end Go.Proofs.YtnooplpbpfiapaaGreatDoor
