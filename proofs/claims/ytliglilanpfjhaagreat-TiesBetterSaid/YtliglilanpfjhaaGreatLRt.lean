/- Whole numbers and rational numbers as they are kept by digits: plain facts. -/
import Derived.Test.YtliglilanpfjhaaGreatLNt
namespace Go.Pv
/-- How many digits a number has. -/
abbrev dl (n : Nat) : Nat := (digs n).length
theorem dl_le {n k : Nat} : dl n ≤ k ↔ n < 1073741824 ^ k := by
  have h := digs_len_le (n := n) (k := k)
  unfold dl
  rw [h]
  have e : PB k = ((1073741824 ^ k : Nat) : Int) := by
    unfold PB BB
    rw [Int.natCast_pow]; rfl
  rw [e]
  omega
theorem dl_mono {n m : Nat} (h : n ≤ m) : dl n ≤ dl m := digs_len_mono h
theorem dl_mul (n m : Nat) : dl (n * m) ≤ dl n + dl m := by
  rw [dl_le, Nat.pow_add]
  have h1 := dl_le.1 (Nat.le_refl (dl n))
  have h2 := dl_le.1 (Nat.le_refl (dl m))
  exact Nat.mul_lt_mul'' h1 h2
theorem dl_zero : dl 0 = 0 := by unfold dl; rw [digs_zero]; rfl
theorem dl_eq_zero {n : Nat} : dl n = 0 ↔ n = 0 := by
  unfold dl
  rw [List.length_eq_zero_iff, digs_nil]
theorem dl_pos {n : Nat} (h : n ≠ 0) : 0 < dl n := by
  have := dl_eq_zero (n := n)
  omega
theorem dl_one {n : Nat} (h : n < 1073741824) : dl n ≤ 1 := dl_le.2 (by simpa using h)
theorem dl_add (n m : Nat) : dl (n + m) ≤ max (dl n) (dl m) + 1 := by
  rw [dl_le, Nat.pow_succ]
  have h1 := dl_le.1 (show dl n ≤ max (dl n) (dl m) by omega)
  have h2 := dl_le.1 (show dl m ≤ max (dl n) (dl m) by omega)
  omega
/-- Digits that are right, with a sign. -/
def bigOk (s : Bool) (L : List Int) : Bool := decide (L.length ≤ 2048) && !(L.isEmpty && s) && decide (L.getLast? ≠ some 0) && L.all fun d => decide (0 ≤ d) && decide (d ≤ 1073741823)
theorem bigOk_iff {s : Bool} {L : List Int} : bigOk s L = true ↔ ∃ n : Nat, L = digs n ∧ dl n ≤ 2048 ∧ (n = 0 → s = false) := by
  have hc : ∀ L : List Int, (L.getLast? ≠ some 0 ∧ ∀ d ∈ L, 0 ≤ d ∧ d ≤ 1073741823) ↔ Canon L := by
    intro L
    unfold Canon dOk BB
    constructor
    · rintro ⟨h1, h2⟩
      refine ⟨fun d hd => ⟨(h2 d hd).1, by have := (h2 d hd).2; omega⟩, fun m hm => h1 (by rw [hm]; simp)⟩
    · rintro ⟨h1, h2⟩
      refine ⟨fun h => ?_, fun d hd => ⟨(h1 d hd).1, by have := (h1 d hd).2; omega⟩⟩
      obtain ⟨m, hm⟩ := List.getLast?_eq_some_iff.1 h
      exact h2 m hm
  have h0 : bigOk s L = true ↔ L.length ≤ 2048 ∧ ¬(L = [] ∧ s = true) ∧ Canon L := by
    rw [← hc]
    simp only [bigOk, Bool.and_eq_true, decide_eq_true_eq, Bool.not_eq_true', Bool.and_eq_false_iff, List.isEmpty_eq_false_iff, List.all_eq_true]
    constructor
    · rintro ⟨⟨⟨h1, h2⟩, h3⟩, h4⟩
      refine ⟨h1, ?_, h3, h4⟩
      rintro ⟨h5, h6⟩
      rcases h2 with h2 | h2
      · exact h2 h5
      · rw [h6] at h2; cases h2
    · rintro ⟨h1, h2, h3, h4⟩
      refine ⟨⟨⟨h1, ?_⟩, h3⟩, h4⟩
      by_cases h5 : L = []
      · right
        cases hs : s with
        | false => rfl
        | true => exact absurd ⟨h5, hs⟩ h2
      · exact .inl h5
  rw [h0]
  constructor
  · rintro ⟨h1, h2, h3⟩
    refine ⟨(dv L).toNat, canon_eq h3, by unfold dl; rw [← canon_eq h3]; exact h1, fun h4 => ?_⟩
    have h5 := canon_eq h3
    rw [h4, digs_zero] at h5
    cases hs : s with
    | false => rfl
    | true => exact absurd ⟨h5, hs⟩ h2
  · rintro ⟨n, rfl, h1, h2⟩
    refine ⟨h1, ?_, canon_digs n⟩
    rintro ⟨h3, h4⟩
    rw [h2 (digs_nil.1 h3)] at h4
    cases h4
theorem bigOk_digs {s : Bool} {n : Nat} (h : dl n ≤ 2048) (hs : n = 0 → s = false) : bigOk s (digs n) = true := bigOk_iff.2 ⟨n, rfl, h, hs⟩
/-- A whole number with its sign: cells. -/
def zC (t : Bool) (z : Int) : List PV := [.bool (decide (z < 0)), intLst t (digs z.natAbs)]
/-- A rational number in lowest terms: cells. -/
def rC (t1 t2 : Bool) (q : Rat) : List PV := zC t1 q.num ++ zC t2 q.den
/-- Are numerator and denominator those of a number? -/
def ratOk (s1 : Bool) (L1 : List Int) (s2 : Bool) (L2 : List Int) : Bool := bigOk s1 L1 && bigOk s2 L2 && !s2 && !L2.isEmpty && decide (Nat.gcd (dv L1).toNat (dv L2).toNat = 1)
structure IsRat (s1 : Bool) (L1 : List Int) (s2 : Bool) (L2 : List Int) (q : Rat) : Prop where
  s1 : s1 = decide (q.num < 0)
  L1 : L1 = digs q.num.natAbs
  s2 : s2 = false
  L2 : L2 = digs q.den
  n : dl q.num.natAbs ≤ 2048
  d : dl q.den ≤ 2048
theorem dv_digs_nat (n : Nat) : (dv (digs n)).toNat = n := by rw [dv_digs]; rfl
theorem ratOk_iff {s1 : Bool} {L1 : List Int} {s2 : Bool} {L2 : List Int} : ratOk s1 L1 s2 L2 = true ↔ ∃ q, IsRat s1 L1 s2 L2 q := by
  unfold ratOk
  simp only [Bool.and_eq_true, Bool.not_eq_true', List.isEmpty_eq_false_iff, decide_eq_true_eq]
  constructor
  · rintro ⟨⟨⟨⟨h1, h2⟩, h3⟩, h4⟩, h5⟩
    obtain ⟨n, rfl, h6, h7⟩ := bigOk_iff.1 h1
    obtain ⟨d, rfl, h8, h9⟩ := bigOk_iff.1 h2
    have hd : d ≠ 0 := fun e => h4 (digs_nil.2 e)
    rw [dv_digs_nat, dv_digs_nat] at h5
    have hz : (if s1 then -(n : Int) else n).natAbs = n := by split <;> omega
    refine ⟨⟨if s1 then -(n : Int) else n, d, hd, by rw [hz]; exact h5⟩, ⟨?_, by simp only [hz], h3, rfl, by simp only [hz]; exact h6, h8⟩⟩
    cases s1 with
    | false => simp
    | true =>
      have : n ≠ 0 := fun e => by have := h7 e; cases this
      simp only [if_true]
      symm
      simp only [decide_eq_true_eq]
      omega
  · rintro ⟨q, rfl, rfl, rfl, rfl, h1, h2⟩
    refine ⟨⟨⟨⟨bigOk_digs h1 fun h => ?_, bigOk_digs h2 fun _ => rfl⟩, rfl⟩, fun h => q.den_nz (digs_nil.1 h)⟩, ?_⟩
    · simp only [decide_eq_false_iff_not]; omega
    · rw [dv_digs_nat, dv_digs_nat]; exact q.reduced
theorem IsRat.ok {s1 s2 : Bool} {L1 L2 : List Int} {q : Rat} (h : IsRat s1 L1 s2 L2 q) : ratOk s1 L1 s2 L2 = true := ratOk_iff.2 ⟨q, h⟩
theorem IsRat.cells {s1 s2 : Bool} {L1 L2 : List Int} {q : Rat} (h : IsRat s1 L1 s2 L2 q) (t1 t2 : Bool) : [.bool s1, intLst t1 L1, .bool s2, intLst t2 L2] = rC t1 t2 q := by
  obtain ⟨rfl, rfl, rfl, rfl, -, -⟩ := h
  simp [rC, zC]
/-- Which of two is greater. -/
def cmpZ (a b : Int) : Int := if a < b then -1 else if b < a then 1 else 0
def cmpR (a b : Rat) : Int := if a < b then -1 else if b < a then 1 else 0
theorem cmpR_eq (a b : Rat) : cmpR a b = cmpZ (a.num * b.den) (b.num * a.den) := by
  unfold cmpR cmpZ
  simp only [Rat.lt_iff]
theorem cmpR_le {a b : Rat} : cmpR a b ≤ 0 ↔ a ≤ b := by
  unfold cmpR
  by_cases h : a < b
  · simp only [if_pos h]
    exact ⟨fun _ => Rat.le_of_lt h, fun _ => by omega⟩
  · by_cases h2 : b < a
    · simp only [if_neg h, if_pos h2]
      exact ⟨fun _ => by omega, fun h3 => absurd h2 (Rat.not_lt.2 h3)⟩
    · simp only [if_neg h, if_neg h2]
      exact ⟨fun _ => Rat.not_lt.1 h2, fun _ => by omega⟩
theorem cmpR_lt {a b : Rat} : cmpR a b < 0 ↔ a < b := by
  unfold cmpR
  by_cases h : a < b
  · simp [h]
  · by_cases h2 : b < a
    · simp [if_pos h2, h]
    · simp [if_neg h2, h]
theorem cmpR_neg (a b : Rat) : cmpR b a = -cmpR a b := by
  unfold cmpR
  by_cases h : a < b
  · have h2 : ¬ b < a := Rat.not_lt.2 (Rat.le_of_lt h)
    simp [h, h2]
  · by_cases h2 : b < a
    · simp [h, h2]
    · simp [h, h2]
theorem cmpR_eq0 {a b : Rat} : cmpR a b = 0 ↔ a = b := by
  have h1 := cmpR_le (a := a) (b := b)
  have h2 := cmpR_le (a := b) (b := a)
  have h3 := cmpR_neg a b
  constructor
  · intro h
    exact Rat.le_antisymm (h1.1 (by omega)) (h2.1 (by omega))
  · rintro rfl
    have := h1.2 Rat.le_refl
    have := h2.2 Rat.le_refl
    omega
end Go.Pv
/- The chance to miss all wrong sheets: plain facts. -/
namespace Go.Pv
theorem mkRat_parts (a : Int) {b : Nat} (hb : b ≠ 0) : ∃ m : Nat, m ≠ 0 ∧ a = (mkRat a b).num * m ∧ b = (mkRat a b).den * m := by
  obtain ⟨x, hx⟩ : ∃ x : Rat, mkRat a b = x := ⟨_, rfl⟩
  obtain ⟨n', d', z', c⟩ := x
  obtain ⟨m, h1, h2, h3⟩ := Rat.mkRat_num_den hb hx
  refine ⟨m, h1, ?_, ?_⟩
  · rw [hx]; exact h2
  · rw [hx]; exact h3
theorem mkRat_le {a c : Int} {b d : Nat} (hb : b ≠ 0) (hd : d ≠ 0) : mkRat a b ≤ mkRat c d ↔ a * d ≤ c * b := by
  obtain ⟨m, hm, e1, e2⟩ := mkRat_parts a hb
  obtain ⟨k, hk, e3, e4⟩ := mkRat_parts c hd
  rw [Rat.le_iff]
  generalize mkRat a b = x at *
  generalize mkRat c d = y at *
  rw [e1, e2, e3, e4]
  have h0 : (0 : Int) < (m : Int) * k := Int.mul_pos (by omega) (by omega)
  have h1 : x.num * (m : Int) * ((y.den * k : Nat) : Int) = x.num * y.den * ((m : Int) * k) := by
    rw [Int.natCast_mul]
    ac_rfl
  have h2 : y.num * (k : Int) * ((x.den * m : Nat) : Int) = y.num * x.den * ((m : Int) * k) := by
    rw [Int.natCast_mul]
    ac_rfl
  rw [h1, h2]
  exact ⟨fun h => Int.mul_le_mul_of_nonneg_right h (by omega), fun h => Int.le_of_mul_le_mul_right h h0⟩
theorem mkRat_small (a : Int) {b : Nat} (hb : b ≠ 0) : (mkRat a b).num.natAbs ≤ a.natAbs ∧ (mkRat a b).den ≤ b := by
  obtain ⟨m, hm, e1, e2⟩ := mkRat_parts a hb
  generalize mkRat a b = x at *
  constructor
  · rw [e1, Int.natAbs_mul]
    exact Nat.le_mul_of_pos_right _ (by omega)
  · rw [e2]
    exact Nat.le_mul_of_pos_right _ (by omega)
end Go.Pv
/- Orders of n elements, counted: plain facts. -/
namespace Go.Pv
def fact : Nat → Nat
  | 0 => 1
  | n + 1 => (n + 1) * fact n
end Go.Pv
