/- Digits: lists of digits of a base, and what they are as numbers. -/
import Derived.Test.YtnooplpbpfiapaaGreatDoorLFr
import Derived.Test.YtnooplpbpfiapaaGreatDoorLRd
namespace Go.Pv
abbrev BB : Int := 1073741824
def dv : List Int → Int
 | [] => 0
 | d :: l => d + BB * dv l
@[simp] theorem dv_nil : dv [] = 0 := rfl
@[simp] theorem y75 (d : Int) (l : List Int) : dv (d :: l) = d + BB * dv l := rfl
theorem k9f (n : Nat) (s : Int) : (BitVec.ofInt n s).toNat = (s % (2 ^ n : Nat)).toNat := by
 rw [BitVec.toNat_ofInt]
theorem j58 (a : Int) (n : Nat) (hn : n ≤ 62) : (BitVec.ofInt 64 a &&& BitVec.ofInt 64 ((2 ^ n - 1 : Nat) : Int)).toNat = (a % ((2 ^ n : Nat) : Int)).toNat := by
 have hp : 2 ^ n ≤ 2 ^ 62 := Nat.pow_le_pow_right (by omega) hn
 have h0 : 0 < 2 ^ n := Nat.pow_pos (by omega)
 rw [BitVec.toNat_and, k9f, k9f]
 have h1 : (((2 ^ n - 1 : Nat) : Int) % ((2 ^ 64 : Nat) : Int)).toNat = 2 ^ n - 1 := by
  rw [Int.emod_eq_of_lt (by omega) (by omega)]
  omega
 rw [h1, Nat.and_two_pow_sub_one_eq_mod]
 have h2 : ((a % ((2 ^ 64 : Nat) : Int)).toNat : Int) = a % ((2 ^ 64 : Nat) : Int) := Int.toNat_of_nonneg (Int.emod_nonneg _ (by omega))
 have h3 : (((a % ((2 ^ 64 : Nat) : Int)).toNat % 2 ^ n : Nat) : Int) = a % ((2 ^ n : Nat) : Int) := by
  rw [Int.natCast_emod, h2]
  have e : (2 ^ 64 : Nat) = 2 ^ n * 2 ^ (64 - n) := by rw [← Nat.pow_add]; congr 1; omega
  rw [e, Int.natCast_mul]
  exact Int.emod_emod_of_dvd _ (Int.dvd_mul_right _ _)
 omega
section
variable (a : Int) (K : PV → Prop)
@[simp high] theorem and31 : k4a .and (.val (.int .u64 a)) (.val (.int .u64 31)) K = K (.val (.int .u64 (a % 32))) := by
 have h : IntKind.u64.wrap ((BitVec.ofInt 64 a &&& BitVec.ofInt 64 31).toNat : Int) = a % 32 := by
  have := j58 a 5 (by omega)
  have e : ((2 ^ 5 - 1 : Nat) : Int) = 31 := by decide
  rw [e] at this
  rw [this, q70 (by omega) (by omega)]
  omega
 rw [j19]
 simp only [true_and]
 exact congrArg (fun n => K (.val (.int .u64 n))) h
end
section
variable {h v1 v2 u2 W vr tr V T g : Int}
structure Kn (h v1 v2 u2 W vr tr V T : Int) : Prop where
 v1a : 536870912 ≤ v1
 v1b : v1 < BB
 v2a : 0 ≤ v2
 v2b : v2 < BB
 u2a : 0 ≤ u2
 u2b : u2 < BB
 Wp : 0 < W
 vra : 0 ≤ vr
 vrb : vr < W
 tra : 0 ≤ tr
 trb : tr < W
 Ve : V = (v1 * BB + v2) * W + vr
 Te : T = (h * BB + u2) * W + tr
 hp : 0 ≤ h
 lt : T < BB * V
end
def fact : Nat → Nat
 | 0 => 1
 | n + 1 => (n + 1) * fact n
def dAt (l : List Int) (i : Nat) : Int := l.getD i 0
def lsR {α : Type} : Option α → LoopState
 | none => .ready
 | some _ => .done
def lpR {α : Type} : Option α → Option Code
 | none => none
 | some _ => some .ret
@[simp] theorem y6u {α : Type} : lsR (none : Option α) = .ready := rfl
@[simp] theorem y6v {α : Type} (a : α) : lsR (some a) = .done := rfl
@[simp] theorem y6w {α : Type} : lpR (none : Option α) = none := rfl
@[simp] theorem y6x {α : Type} (a : α) : lpR (some a) = some .ret := rfl
@[simp] theorem wrapL1 : IntKind.i64.wrap 1 = 1 := q5m (by decide) (by decide)
theorem PLe.tuple2 {p q p' q' : PV} (h1 : PLe p p') (h2 : PLe q q') : PLe (.tuple [p, q]) (.tuple [p', q']) := fun I v h => by
 simp only [vrep] at h ⊢
 obtain ⟨vs, h3, h4⟩ := h
 match vs, h4 with
 | [a, b], h4 =>
  simp only [vreps] at h4
  exact ⟨[a, b], h3, by simp only [vreps]; exact ⟨h1 I _ h4.1, h2 I _ h4.2.1, trivial⟩⟩
theorem Sees.le {p q : PV} {st : q5d} (h : PLe p q) : Sees p st q st := ⟨fun I _ v h1 h2 => ⟨I, I.le_refl, h1, h I v h2⟩⟩
theorem RetView.le {c : PV → PEnd} {p q : PV} {st : q5d} {Q : PEnd → q5d → Prop} (hp : PLe p q) (h : RetView c q st Q) : RetView c p st Q := .sees (.le hp) h
theorem PLe.nil0 : PLe .nil (q5k false []) := PLe.trans PLe.nil PLe.loose
theorem PLe.agg2 {p q p' q' : PV} (h1 : PLe p p') (h2 : PLe q q') : PLe (.agg [p, q]) (.agg [p', q']) := fun I v h => by
 simp only [vrep] at h ⊢
 obtain ⟨vs, h3, h4⟩ := h
 match vs, h4 with
 | [a, b], h4 =>
  simp only [vcells] at h4
  exact ⟨[a, b], h3, by simp only [vcells]; exact ⟨⟨h1 I _ h4.1.1, h4.1.2⟩, ⟨h2 I _ h4.2.1.1, h4.2.1.2⟩, trivial⟩⟩
theorem PsLe.vcells : ∀ {ps qs : List PV} (_ : PsLe ps qs) (I : Imm) (vs : List Value), vcells I ps vs → vcells I qs vs
 | [], [], _, _, _, h => h
 | p :: ps, q :: qs, hw, I, [], h => by simp [Go.Pv.vcells] at h
 | p :: ps, q :: qs, hw, I, v :: vs, h => by
  simp only [Go.Pv.vcells] at h ⊢
  exact ⟨⟨hw.1 I v h.1.1, h.1.2⟩, PsLe.vcells hw.2 I vs h.2⟩
theorem PLe.aggs {ps qs : List PV} (h : PsLe ps qs) : PLe (.agg ps) (.agg qs) := fun I v hv => by
 simp only [vrep] at hv ⊢
 obtain ⟨vs, h1, h2⟩ := hv
 exact ⟨vs, h1, h.vcells I vs h2⟩
end Go.Pv
