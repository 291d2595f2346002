/- Digits: lists of digits of a base, and what they are as numbers. -/
import Derived.Test.YtmlmoaimjifpgaaGreatLFr
import Derived.Test.YtmlmoaimjifpgaaGreatLRd
namespace Go.Pv
abbrev BB : Int := 1073741824
def dv : List Int → Int
 | [] => 0
 | d :: l => d + BB * dv l
def dOk (l : List Int) : Prop := ∀ d ∈ l, 0 ≤ d ∧ d < BB
def z4y (n : Nat) : List Int := if h : n = 0 then [] else ((n % 1073741824 : Nat) : Int) :: z4y (n / 1073741824)
termination_by n
decreasing_by exact Nat.div_lt_self (Nat.pos_of_ne_zero h) (by omega)
theorem digs_zero : z4y 0 = [] := by rw [z4y]; simp
theorem z2k {n : Nat} (h : n ≠ 0) : z4y n = ((n % 1073741824 : Nat) : Int) :: z4y (n / 1073741824) := by rw [z4y]; simp [h]
@[simp] theorem y5m : dv [] = 0 := rfl
@[simp] theorem k2o (d : Int) (l : List Int) : dv (d :: l) = d + BB * dv l := rfl
theorem z7l (n : Nat) : dv (z4y n) = n := by
 induction n using Nat.strongRecOn with
 | _ n ih =>
  by_cases h : n = 0
  ·subst h; rw [digs_zero]; rfl
  ·rw [z2k h, k2o, ih _ (Nat.div_lt_self (Nat.pos_of_ne_zero h) (by omega))]
   unfold BB
   omega
theorem y0o (n : Nat) : dOk (z4y n) := by
 induction n using Nat.strongRecOn with
 | _ n ih =>
  by_cases h : n = 0
  ·subst h; rw [digs_zero]; intro d hd; simp at hd
  ·rw [z2k h]
   intro d hd
   rcases List.mem_cons.1 hd with rfl | hd
   ·unfold BB; omega
   ·exact ih _ (Nat.div_lt_self (Nat.pos_of_ne_zero h) (by omega)) d hd
theorem j3h : dOk [] := fun d hd => by simp at hd
theorem k7o {d : Int} {l : List Int} : dOk (d :: l) ↔ (0 ≤ d ∧ d < BB) ∧ dOk l := by
 unfold dOk
 simp
theorem z02 {l m : List Int} : dOk (l ++ m) ↔ dOk l ∧ dOk m := by
 unfold dOk
 constructor
 ·intro h; exact ⟨fun d hd => h d (by simp [hd]), fun d hd => h d (by simp [hd])⟩
 ·rintro ⟨h1, h2⟩ d hd
  rcases List.mem_append.1 hd with hd | hd
  ·exact h1 d hd
  ·exact h2 d hd
theorem z4z {l : List Int} (h : dOk l) : 0 ≤ dv l := by
 induction l with
 | nil => exact Int.le_refl 0
 | cons d l ih =>
  have h' := k7o.1 h
  have := ih h'.2
  rw [k2o]
  unfold BB at *
  omega
abbrev PB (k : Nat) : Int := BB ^ k
theorem z9l (k : Nat) : 0 < PB k := Int.pow_pos (by decide)
theorem z2l (k : Nat) : PB (k + 1) = BB * PB k := by unfold PB; rw [Int.pow_succ, Int.mul_comm]
theorem y5n (j k : Nat) : PB (j + k) = PB j * PB k := Int.pow_add ..
theorem y5o {l : List Int} (h : dOk l) : dv l < PB l.length := by
 induction l with
 | nil => decide
 | cons d l ih =>
  have h' := k7o.1 h
  have := ih h'.2
  rw [k2o, List.length_cons, z2l]
  unfold BB at *
  omega
theorem j3i (l m : List Int) : dv (l ++ m) = dv l + PB l.length * dv m := by
 induction l with
 | nil => simp
 | cons d l ih =>
  rw [List.cons_append, k2o, ih, k2o, List.length_cons, z2l, Int.mul_add, Int.mul_assoc]
  omega
theorem z7m (l : List Int) (d : Int) : dv (l ++ [d]) = dv l + PB l.length * d := by
 rw [j3i]; simp
def k57 (l : List Int) : List Int := l.take (l.length - (l.reverse.takeWhile (· == 0)).length)
theorem z7n (l : List Int) : k57 (l ++ [0]) = k57 l := by
 unfold k57
 have hle : (l.reverse.takeWhile (· == 0)).length ≤ l.length := by
  have := (List.takeWhile_prefix (l := l.reverse) (· == (0 : Int))).length_le
  simpa using this
 simp only [List.reverse_append, List.reverse_cons, List.reverse_nil, List.nil_append, List.singleton_append, List.length_append, List.length_cons, List.length_nil]
 rw [List.takeWhile_cons_of_pos (by decide), List.length_cons]
 rw [show l.length + (0 + 1) - ((l.reverse.takeWhile (· == 0)).length + 1) = l.length - (l.reverse.takeWhile (· == 0)).length by omega]
 rw [List.take_append_of_le_length (by omega)]
theorem j04 {l : List Int} {d : Int} (h : d ≠ 0) : k57 (l ++ [d]) = l ++ [d] := by
 unfold k57
 simp only [List.reverse_append, List.reverse_cons, List.reverse_nil, List.nil_append, List.singleton_append]
 rw [List.takeWhile_cons_of_neg (by simpa using h)]
 exact List.take_of_length_le (by simp)
def j3j (l : List Int) : Prop := dOk l ∧ ∀ m, l ≠ m ++ [0]
theorem z03 {d : Int} {l : List Int} (h : j3j (d :: l)) : j3j l := ⟨(k7o.1 h.1).2, fun m hm => h.2 (d :: m) (by rw [hm]; rfl)⟩
theorem j6y {l : List Int} (h : j3j l) : l = z4y (dv l).toNat := by
 induction l with
 | nil => rw [y5m]; exact digs_zero.symm
 | cons d l ih =>
  have ih' := ih (z03 h)
  have hd := (k7o.1 h.1).1
  have hl := z4z (z03 h).1
  have hne : (dv (d :: l)).toNat ≠ 0 := by
   intro h0
   rw [k2o] at h0
   unfold BB at *
   have h1 : dv l = 0 := by omega
   have h2 : d = 0 := by omega
   rw [h1] at ih'
   have h3 : l = [] := by rw [ih']; simp [digs_zero]
   subst h3; subst h2
   exact h.2 [] rfl
  rw [z2k hne]
  have e1 : (((dv (d :: l)).toNat % 1073741824 : Nat) : Int) = d := by rw [k2o] at *; unfold BB at *; omega
  have e2 : (dv (d :: l)).toNat / 1073741824 = (dv l).toNat := by rw [k2o] at *; unfold BB at *; omega
  rw [e1, e2, ← ih']
theorem z7o {l : List Int} (h : dOk l) : j3j (k57 l) ∧ dv (k57 l) = dv l := by
 have key : ∀ r : List Int, dOk r.reverse → j3j (k57 r.reverse) ∧ dv (k57 r.reverse) = dv r.reverse := by
  intro r
  induction r with
  | nil => intro _; exact ⟨⟨j3h, fun m hm => by simp [k57] at hm⟩, rfl⟩
  | cons d r ih =>
   intro hr
   rw [List.reverse_cons] at hr ⊢
   by_cases hd : d = 0
   ·subst hd
    rw [z7n, z7m, Int.mul_zero, Int.add_zero]
    exact ih (z02.1 hr).1
   ·rw [j04 hd]
    exact ⟨⟨hr, fun m hm => by have := List.append_inj' hm rfl; simp at this; exact hd this.2⟩, rfl⟩
 have := key l.reverse (by simpa using h)
 simpa using this
theorem j6z {l : List Int} (h : dOk l) {n : Nat} (hn : dv l = n) : k57 l = z4y n := by
 obtain ⟨h1, h2⟩ := z7o h
 rw [j6y h1, h2, hn]
 rfl
theorem z7p (n : Nat) : (n : Int) < PB (z4y n).length := by rw [← z7l n]; exact y5o (y0o n)
theorem j3k {j k : Nat} (h : j ≤ k) : PB j ≤ PB k := by
 obtain ⟨i, rfl⟩ := Nat.exists_eq_add_of_le h
 rw [y5n]
 have h1 := z9l j
 have h2 := z9l i
 calc PB j = PB j * 1 := by rw [Int.mul_one]
  _ ≤ PB j * PB i := Int.mul_le_mul_of_nonneg_left (by omega) (by omega)
theorem z40 {l : List Int} {i : Nat} (h : i < l.length) : dv (l.take (i + 1)) = dv (l.take i) + PB i * l[i] := by
 rw [List.take_succ_eq_append_getElem h, z7m, List.length_take, Nat.min_eq_left (by omega)]
section
variable (a : Int) (K : PV → Prop)
end
section
variable {h v1 v2 u2 W vr tr V T g : Int}
structure Kn (h v1 v2 u2 W vr tr V T : Int) : Prop where
 v1a : 536870912 ≤ v1
 v1b : v1 < BB
 v2a : 0 ≤ v2
 v2b : v2 < BB
 u2a : 0 ≤ u2
 u2b : u2 < BB
 Wp : 0 < W
 vra : 0 ≤ vr
 vrb : vr < W
 tra : 0 ≤ tr
 trb : tr < W
 Ve : V = (v1 * BB + v2) * W + vr
 Te : T = (h * BB + u2) * W + tr
 hp : 0 ≤ h
 lt : T < BB * V
end
abbrev dl (n : Nat) : Nat := (z4y n).length
def zC (t : Bool) (z : Int) : List PV := [.bool (decide (z < 0)), z9k t (z4y z.natAbs)]
def fact : Nat → Nat
 | 0 => 1
 | n + 1 => (n + 1) * fact n
def z41 (f : Nat → Int) : Nat → List Int × Int
 | 0 => ([], 0)
 | n + 1 => let p := z41 f n; let s := f n + p.2; (p.1 ++ [s % BB], s / BB)
def j3l (f : Nat → Int) : Nat → Int
 | 0 => 0
 | n + 1 => j3l f n + PB n * f n
theorem z2m (f : Nat → Int) : ∀ n, (z41 f n).1.length = n
 | 0 => rfl
 | n + 1 => by simp [z41, z2m f n]
theorem j3m (f : Nat → Int) : ∀ n, dOk (z41 f n).1
 | 0 => j3h
 | n + 1 => by
  simp only [z41]
  refine z02.2 ⟨j3m f n, fun d hd => ?_⟩
  rw [List.mem_singleton.1 hd]
  exact ⟨Int.emod_nonneg _ (by decide), Int.emod_lt_of_pos _ (by decide)⟩
theorem z9m (f : Nat → Int) : ∀ n, dv (z41 f n).1 + PB n * (z41 f n).2 = j3l f n
 | 0 => rfl
 | n + 1 => by
  simp only [z41, j3l]
  rw [z7m, z2m, ← z9m f n, z2l]
  have h := Int.emod_add_mul_ediv (f n + (z41 f n).2) BB
  have e : PB n * ((f n + (z41 f n).2) % BB) + BB * PB n * ((f n + (z41 f n).2) / BB) = PB n * (f n + (z41 f n).2) := by
   conv => rhs; rw [← h, Int.mul_add, ← Int.mul_assoc, Int.mul_comm (PB n) BB]
  rw [Int.mul_add] at e
  omega
theorem j3n {f : Nat → Int} {n m : Nat} (hs : j3l f n = m) (hm : (m : Int) < PB n) : k57 (z41 f n).1 = z4y m := by
 have h1 := z9m f n
 have h2 := j3m f n
 have h3 := z4z h2
 have h4 := y5o h2
 rw [z2m] at h4
 have hp := z9l n
 refine j6z h2 ?_
 have h0 : (z41 f n).2 = 0 := by
  apply Int.le_antisymm
  ·apply Int.not_lt.1
   intro h
   have := Int.mul_le_mul_of_nonneg_left (show 1 ≤ (z41 f n).2 by omega) (show 0 ≤ PB n by omega)
   omega
  ·apply Int.not_lt.1
   intro h
   have := Int.mul_le_mul_of_nonneg_left (show (z41 f n).2 ≤ -1 by omega) (show 0 ≤ PB n by omega)
   omega
 rw [h0, Int.mul_zero] at h1
 omega
def dAt (l : List Int) (i : Nat) : Int := l.getD i 0
theorem y5p {l : List Int} {i : Nat} (h : i < l.length) : dAt l i = l[i] := by simp [dAt, h]
theorem y5q {l : List Int} {i : Nat} (h : l.length ≤ i) : dAt l i = 0 := by simp [dAt, h]
theorem z42 (l : List Int) : ∀ n, j3l (dAt l) n = dv (l.take n)
 | 0 => rfl
 | n + 1 => by
  rw [j3l, z42 l n]
  by_cases h : n < l.length
  ·rw [z40 h, y5p h]
  ·rw [y5q (by omega), Int.mul_zero, Int.add_zero, List.take_of_length_le (by omega), List.take_of_length_le (by omega)]
theorem z43 {l : List Int} {n : Nat} (h : l.length ≤ n) : j3l (dAt l) n = dv l := by rw [z42, List.take_of_length_le h]
theorem z9n (f g : Nat → Int) : ∀ n, j3l (fun i => f i + g i) n = j3l f n + j3l g n
 | 0 => rfl
 | n + 1 => by
  simp only [j3l]; rw [z9n f g n, Int.mul_add]; omega
def lsR {α : Type} : Option α → LoopState
 | none => .ready
 | some _ => .done
def lpR {α : Type} : Option α → Option Code
 | none => none
 | some _ => some .ret
@[simp] theorem y70 {α : Type} : lsR (none : Option α) = .ready := rfl
@[simp] theorem y71 {α : Type} (a : α) : lsR (some a) = .done := rfl
@[simp] theorem y72 {α : Type} : lpR (none : Option α) = none := rfl
@[simp] theorem y73 {α : Type} (a : α) : lpR (some a) = some .ret := rfl
@[simp] theorem wrapL0 : IntKind.i64.wrap 0 = 0 := q5a (by decide) (by decide)
@[simp] theorem wrapL1 : IntKind.i64.wrap 1 = 1 := q5a (by decide) (by decide)
theorem j3o (a : Nat) : (a : Int) < PB (dl a) := by
 have := z7p a
 exact this
theorem addD (a b : Nat) : k57 (z41 (fun i => dAt (z4y a) i + dAt (z4y b) i) (max (dl a) (dl b) + 1)).1 = z4y (a + b) := by
 refine j3n ?_ ?_
 ·rw [z9n, z43 (by show dl a ≤ _; omega), z43 (by show dl b ≤ _; omega), z7l, z7l]
  omega
 ·have h1 := j3o a
  have h2 := j3o b
  have h3 := j3k (show dl a ≤ max (dl a) (dl b) by omega)
  have h4 := j3k (show dl b ≤ max (dl a) (dl b) by omega)
  have h5 := z9l (max (dl a) (dl b))
  rw [z2l]
  generalize PB (max (dl a) (dl b)) = p at *
  unfold BB
  omega
theorem PsLe.vcells : ∀ {ps qs : List PV} (_ : PsLe ps qs) (I : Imm) (vs : List Value), vcells I ps vs → vcells I qs vs
 | [], [], _, _, _, h => h
 | p :: ps, q :: qs, hw, I, [], h => by simp [Go.Pv.vcells] at h
 | p :: ps, q :: qs, hw, I, v :: vs, h => by
  simp only [Go.Pv.vcells] at h ⊢
  exact ⟨⟨hw.1 I v h.1.1, h.1.2⟩, PsLe.vcells hw.2 I vs h.2⟩
end Go.Pv
