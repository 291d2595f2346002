/- Whole numbers and rational numbers as they are kept by digits: plain facts. -/
import Derived.Test.YtliglilanpfjhaaLNt
namespace Go.Pv
theorem bool_ext {a b : Bool} (h : a = true ↔ b = true) : a = b := by
  cases a <;> cases b <;> simp_all
/-- How many digits a number has. -/
abbrev dl (n : Nat) : Nat := (digs n).length
theorem dl_le {n k : Nat} : dl n ≤ k ↔ n < 1073741824 ^ k := by
  have h := digs_len_le (n := n) (k := k)
  unfold dl
  rw [h]
  have e : PB k = ((1073741824 ^ k : Nat) : Int) := by
    unfold PB BB
    rw [Int.natCast_pow]; rfl
  rw [e]
  omega
theorem dl_mono {n m : Nat} (h : n ≤ m) : dl n ≤ dl m := digs_len_mono h
theorem dl_mul (n m : Nat) : dl (n * m) ≤ dl n + dl m := by
  rw [dl_le, Nat.pow_add]
  have h1 := dl_le.1 (Nat.le_refl (dl n))
  have h2 := dl_le.1 (Nat.le_refl (dl m))
  exact Nat.mul_lt_mul'' h1 h2
theorem dl_zero : dl 0 = 0 := by unfold dl; rw [digs_zero]; rfl
theorem dl_eq_zero {n : Nat} : dl n = 0 ↔ n = 0 := by
  unfold dl
  rw [List.length_eq_zero_iff, digs_nil]
theorem dl_pos {n : Nat} (h : n ≠ 0) : 0 < dl n := by
  have := dl_eq_zero (n := n)
  omega
theorem dl_one {n : Nat} (h : n < 1073741824) : dl n ≤ 1 := dl_le.2 (by simpa using h)
theorem dl_add (n m : Nat) : dl (n + m) ≤ max (dl n) (dl m) + 1 := by
  rw [dl_le, Nat.pow_succ]
  have h1 := dl_le.1 (show dl n ≤ max (dl n) (dl m) by omega)
  have h2 := dl_le.1 (show dl m ≤ max (dl n) (dl m) by omega)
  omega
/-- Digits that are right, with a sign. -/
def bigOk (s : Bool) (L : List Int) : Bool := decide (L.length ≤ 2048) && !(L.isEmpty && s) && decide (L.getLast? ≠ some 0) && L.all fun d => decide (0 ≤ d) && decide (d ≤ 1073741823)
theorem bigOk_iff {s : Bool} {L : List Int} : bigOk s L = true ↔ ∃ n : Nat, L = digs n ∧ dl n ≤ 2048 ∧ (n = 0 → s = false) := by
  have hc : ∀ L : List Int, (L.getLast? ≠ some 0 ∧ ∀ d ∈ L, 0 ≤ d ∧ d ≤ 1073741823) ↔ Canon L := by
    intro L
    unfold Canon dOk BB
    constructor
    · rintro ⟨h1, h2⟩
      refine ⟨fun d hd => ⟨(h2 d hd).1, by have := (h2 d hd).2; omega⟩, fun m hm => h1 (by rw [hm]; simp)⟩
    · rintro ⟨h1, h2⟩
      refine ⟨fun h => ?_, fun d hd => ⟨(h1 d hd).1, by have := (h1 d hd).2; omega⟩⟩
      obtain ⟨m, hm⟩ := List.getLast?_eq_some_iff.1 h
      exact h2 m hm
  have h0 : bigOk s L = true ↔ L.length ≤ 2048 ∧ ¬(L = [] ∧ s = true) ∧ Canon L := by
    rw [← hc]
    simp only [bigOk, Bool.and_eq_true, decide_eq_true_eq, Bool.not_eq_true', Bool.and_eq_false_iff, List.isEmpty_eq_false_iff, List.all_eq_true]
    constructor
    · rintro ⟨⟨⟨h1, h2⟩, h3⟩, h4⟩
      refine ⟨h1, ?_, h3, h4⟩
      rintro ⟨h5, h6⟩
      rcases h2 with h2 | h2
      · exact h2 h5
      · rw [h6] at h2; cases h2
    · rintro ⟨h1, h2, h3, h4⟩
      refine ⟨⟨⟨h1, ?_⟩, h3⟩, h4⟩
      by_cases h5 : L = []
      · right
        cases hs : s with
        | false => rfl
        | true => exact absurd ⟨h5, hs⟩ h2
      · exact .inl h5
  rw [h0]
  constructor
  · rintro ⟨h1, h2, h3⟩
    refine ⟨(dv L).toNat, canon_eq h3, by unfold dl; rw [← canon_eq h3]; exact h1, fun h4 => ?_⟩
    have h5 := canon_eq h3
    rw [h4, digs_zero] at h5
    cases hs : s with
    | false => rfl
    | true => exact absurd ⟨h5, hs⟩ h2
  · rintro ⟨n, rfl, h1, h2⟩
    refine ⟨h1, ?_, canon_digs n⟩
    rintro ⟨h3, h4⟩
    rw [h2 (digs_nil.1 h3)] at h4
    cases h4
theorem bigOk_digs {s : Bool} {n : Nat} (h : dl n ≤ 2048) (hs : n = 0 → s = false) : bigOk s (digs n) = true := bigOk_iff.2 ⟨n, rfl, h, hs⟩
/-- A whole number with its sign: cells. -/
def zC (t : Bool) (z : Int) : List PV := [.bool (decide (z < 0)), intLst t (digs z.natAbs)]
/-- A rational number in lowest terms: cells. -/
def rC (t1 t2 : Bool) (q : Rat) : List PV := zC t1 q.num ++ zC t2 q.den
/-- Are numerator and denominator those of a number? -/
def ratOk (s1 : Bool) (L1 : List Int) (s2 : Bool) (L2 : List Int) : Bool := bigOk s1 L1 && bigOk s2 L2 && !s2 && !L2.isEmpty && decide (Nat.gcd (dv L1).toNat (dv L2).toNat = 1)
structure IsRat (s1 : Bool) (L1 : List Int) (s2 : Bool) (L2 : List Int) (q : Rat) : Prop where
  s1 : s1 = decide (q.num < 0)
  L1 : L1 = digs q.num.natAbs
  s2 : s2 = false
  L2 : L2 = digs q.den
  n : dl q.num.natAbs ≤ 2048
  d : dl q.den ≤ 2048
theorem dv_digs_nat (n : Nat) : (dv (digs n)).toNat = n := by rw [dv_digs]; rfl
theorem ratOk_iff {s1 : Bool} {L1 : List Int} {s2 : Bool} {L2 : List Int} : ratOk s1 L1 s2 L2 = true ↔ ∃ q, IsRat s1 L1 s2 L2 q := by
  unfold ratOk
  simp only [Bool.and_eq_true, Bool.not_eq_true', List.isEmpty_eq_false_iff, decide_eq_true_eq]
  constructor
  · rintro ⟨⟨⟨⟨h1, h2⟩, h3⟩, h4⟩, h5⟩
    obtain ⟨n, rfl, h6, h7⟩ := bigOk_iff.1 h1
    obtain ⟨d, rfl, h8, h9⟩ := bigOk_iff.1 h2
    have hd : d ≠ 0 := fun e => h4 (digs_nil.2 e)
    rw [dv_digs_nat, dv_digs_nat] at h5
    have hz : (if s1 then -(n : Int) else n).natAbs = n := by split <;> omega
    refine ⟨⟨if s1 then -(n : Int) else n, d, hd, by rw [hz]; exact h5⟩, ⟨?_, by simp only [hz], h3, rfl, by simp only [hz]; exact h6, h8⟩⟩
    cases s1 with
    | false => simp
    | true =>
      have : n ≠ 0 := fun e => by have := h7 e; cases this
      simp only [if_true]
      symm
      simp only [decide_eq_true_eq]
      omega
  · rintro ⟨q, rfl, rfl, rfl, rfl, h1, h2⟩
    refine ⟨⟨⟨⟨bigOk_digs h1 fun h => ?_, bigOk_digs h2 fun _ => rfl⟩, rfl⟩, fun h => q.den_nz (digs_nil.1 h)⟩, ?_⟩
    · simp only [decide_eq_false_iff_not]; omega
    · rw [dv_digs_nat, dv_digs_nat]; exact q.reduced
theorem IsRat.ok {s1 s2 : Bool} {L1 L2 : List Int} {q : Rat} (h : IsRat s1 L1 s2 L2 q) : ratOk s1 L1 s2 L2 = true := ratOk_iff.2 ⟨q, h⟩
theorem IsRat.cells {s1 s2 : Bool} {L1 L2 : List Int} {q : Rat} (h : IsRat s1 L1 s2 L2 q) (t1 t2 : Bool) : [.bool s1, intLst t1 L1, .bool s2, intLst t2 L2] = rC t1 t2 q := by
  obtain ⟨rfl, rfl, rfl, rfl, -, -⟩ := h
  simp [rC, zC]
/-- Which of two is greater. -/
def cmpZ (a b : Int) : Int := if a < b then -1 else if b < a then 1 else 0
def cmpR (a b : Rat) : Int := if a < b then -1 else if b < a then 1 else 0
theorem cmpR_eq (a b : Rat) : cmpR a b = cmpZ (a.num * b.den) (b.num * a.den) := by
  unfold cmpR cmpZ
  simp only [Rat.lt_iff]
theorem cmpR_le {a b : Rat} : cmpR a b ≤ 0 ↔ a ≤ b := by
  unfold cmpR
  by_cases h : a < b
  · simp only [if_pos h]
    exact ⟨fun _ => Rat.le_of_lt h, fun _ => by omega⟩
  · by_cases h2 : b < a
    · simp only [if_neg h, if_pos h2]
      exact ⟨fun _ => by omega, fun h3 => absurd h2 (Rat.not_lt.2 h3)⟩
    · simp only [if_neg h, if_neg h2]
      exact ⟨fun _ => Rat.not_lt.1 h2, fun _ => by omega⟩
theorem cmpR_lt {a b : Rat} : cmpR a b < 0 ↔ a < b := by
  unfold cmpR
  by_cases h : a < b
  · simp [h]
  · by_cases h2 : b < a
    · simp [if_pos h2, h]
    · simp [if_neg h2, h]
theorem cmpR_neg (a b : Rat) : cmpR b a = -cmpR a b := by
  unfold cmpR
  by_cases h : a < b
  · have h2 : ¬ b < a := Rat.not_lt.2 (Rat.le_of_lt h)
    simp [h, h2]
  · by_cases h2 : b < a
    · simp [h, h2]
    · simp [h, h2]
theorem cmpR_eq0 {a b : Rat} : cmpR a b = 0 ↔ a = b := by
  have h1 := cmpR_le (a := a) (b := b)
  have h2 := cmpR_le (a := b) (b := a)
  have h3 := cmpR_neg a b
  constructor
  · intro h
    exact Rat.le_antisymm (h1.1 (by omega)) (h2.1 (by omega))
  · rintro rfl
    have := h1.2 Rat.le_refl
    have := h2.2 Rat.le_refl
    omega
/-- A fraction in lowest terms. -/
theorem norm_num {n : Int} {d : Nat} (h : d ≠ 0) : (Rat.normalize n d h).num = n / ((n.natAbs.gcd d : Nat) : Int) := by rw [Rat.normalize_eq]
theorem norm_den {n : Int} {d : Nat} (h : d ≠ 0) : (Rat.normalize n d h).den = d / n.natAbs.gcd d := by rw [Rat.normalize_eq]
end Go.Pv
/- The chance to miss all wrong sheets: plain facts. -/
namespace Go.Pv
/-- n (n-1) .. : k factors. -/
def desc (n : Nat) : Nat → Nat
  | 0 => 1
  | k + 1 => desc n k * (n - k)
theorem desc_pos {n : Nat} : ∀ {k : Nat}, k ≤ n → 0 < desc n k
  | 0, _ => Nat.one_pos
  | k + 1, h => Nat.mul_pos (desc_pos (by omega)) (by omega)
theorem desc_zero {n k : Nat} (h : n < k) : desc n k = 0 := by
  induction k with
  | zero => omega
  | succ k ih =>
    simp only [desc]
    by_cases hk : n < k
    · rw [ih hk, Nat.zero_mul]
    · rw [show n - k = 0 by omega, Nat.mul_zero]
theorem desc_mono {n m : Nat} (h : n ≤ m) (k : Nat) : desc n k ≤ desc m k := by
  induction k with
  | zero => exact Nat.le_refl _
  | succ k ih => exact Nat.mul_le_mul ih (by omega)
theorem desc_le (n k : Nat) : desc n k ≤ n ^ k := by
  induction k with
  | zero => exact Nat.le_refl _
  | succ k ih =>
    rw [Nat.pow_succ]
    exact Nat.mul_le_mul ih (by omega)
/-- The chance that k of n sheets miss all w wrong ones. -/
def missR (n w : Nat) : Nat → Rat
  | 0 => 1
  | k + 1 => missR n w k * mkRat ((n - w - k : Nat) : Int) (n - k)
theorem missR_eq (n w : Nat) : ∀ k, k ≤ n → missR n w k = mkRat (desc (n - w) k : Nat) (desc n k)
  | 0, _ => by
    simp only [missR, desc]
    rfl
  | k + 1, h => by
    simp only [missR, desc]
    rw [missR_eq n w k (by omega), Rat.mkRat_mul_mkRat, Int.natCast_mul]
theorem mkRat_parts (a : Int) {b : Nat} (hb : b ≠ 0) : ∃ m : Nat, m ≠ 0 ∧ a = (mkRat a b).num * m ∧ b = (mkRat a b).den * m := by
  obtain ⟨x, hx⟩ : ∃ x : Rat, mkRat a b = x := ⟨_, rfl⟩
  obtain ⟨n', d', z', c⟩ := x
  obtain ⟨m, h1, h2, h3⟩ := Rat.mkRat_num_den hb hx
  refine ⟨m, h1, ?_, ?_⟩
  · rw [hx]; exact h2
  · rw [hx]; exact h3
theorem mkRat_le {a c : Int} {b d : Nat} (hb : b ≠ 0) (hd : d ≠ 0) : mkRat a b ≤ mkRat c d ↔ a * d ≤ c * b := by
  obtain ⟨m, hm, e1, e2⟩ := mkRat_parts a hb
  obtain ⟨k, hk, e3, e4⟩ := mkRat_parts c hd
  rw [Rat.le_iff]
  generalize mkRat a b = x at *
  generalize mkRat c d = y at *
  rw [e1, e2, e3, e4]
  have h0 : (0 : Int) < (m : Int) * k := Int.mul_pos (by omega) (by omega)
  have h1 : x.num * (m : Int) * ((y.den * k : Nat) : Int) = x.num * y.den * ((m : Int) * k) := by
    rw [Int.natCast_mul]
    ac_rfl
  have h2 : y.num * (k : Int) * ((x.den * m : Nat) : Int) = y.num * x.den * ((m : Int) * k) := by
    rw [Int.natCast_mul]
    ac_rfl
  rw [h1, h2]
  exact ⟨fun h => Int.mul_le_mul_of_nonneg_right h (by omega), fun h => Int.le_of_mul_le_mul_right h h0⟩
theorem mkRat_small (a : Int) {b : Nat} (hb : b ≠ 0) : (mkRat a b).num.natAbs ≤ a.natAbs ∧ (mkRat a b).den ≤ b := by
  obtain ⟨m, hm, e1, e2⟩ := mkRat_parts a hb
  generalize mkRat a b = x at *
  constructor
  · rw [e1, Int.natAbs_mul]
    exact Nat.le_mul_of_pos_right _ (by omega)
  · rw [e2]
    exact Nat.le_mul_of_pos_right _ (by omega)
theorem missR_small {n w k m : Nat} (hn : n ≤ m) (h : k ≤ n) : (missR n w k).num.natAbs ≤ m ^ k ∧ (missR n w k).den ≤ m ^ k := by
  rw [missR_eq n w k h]
  have hd := desc_pos h
  obtain ⟨h1, h2⟩ := mkRat_small ((desc (n - w) k : Nat) : Int) (show desc n k ≠ 0 by omega)
  have h3 := desc_le n k
  have h4 := desc_mono (show n - w ≤ n by omega) k
  have h5 := Nat.pow_le_pow_left hn k
  have h6 : ((desc (n - w) k : Nat) : Int).natAbs = desc (n - w) k := rfl
  omega
theorem missR_nonneg {n w k : Nat} (h : k ≤ n) : 0 ≤ missR n w k := by
  rw [missR_eq n w k h, show (0 : Rat) = mkRat 0 1 by rfl, mkRat_le (by omega) (by have := desc_pos h; omega)]
  simp
theorem missR_anti {n w k : Nat} (h : k + 1 ≤ n) : missR n w (k + 1) ≤ missR n w k := by
  rw [missR_eq n w k (by omega), missR_eq n w _ h, mkRat_le (by have := desc_pos h; omega) (by have := desc_pos (show k ≤ n by omega); omega)]
  simp only [desc]
  norm_cast
  have : desc (n - w) k * (n - w - k) * desc n k = desc (n - w) k * (desc n k * (n - w - k)) := by ac_rfl
  rw [this]
  exact Nat.mul_le_mul_left _ (Nat.mul_le_mul_left _ (by omega))
theorem missR_mono {n w j k : Nat} (h : j ≤ k) (hk : k ≤ n) : missR n w k ≤ missR n w j := by
  induction k with
  | zero => have e : j = 0 := by omega
            subst e; exact Rat.le_refl
  | succ k ih =>
    by_cases hj : j = k + 1
    · subst hj; exact Rat.le_refl
    · exact Rat.le_trans (missR_anti hk) (ih (by omega) (by omega))
theorem missR_wrong {n v w k : Nat} (h : v ≤ w) (hk : k ≤ n) : missR n w k ≤ missR n v k := by
  have hd := desc_pos hk
  rw [missR_eq n w k hk, missR_eq n v k hk, mkRat_le (by omega) (by omega)]
  norm_cast
  exact Nat.mul_le_mul_right _ (desc_mono (by omega) k)
theorem missR_end {n w k : Nat} (h : n - w < k) (hk : k ≤ n) : missR n w k = 0 := by
  rw [missR_eq n w k hk, desc_zero h]
  exact Rat.zero_mkRat _
/-- How many sheets are enough. -/
def needF (n w : Nat) (q : Rat) (k : Nat) : Nat → Nat
  | 0 => k
  | f + 1 => if missR n w k ≤ q then k else needF n w q (k + 1) f
def needR (n w : Nat) (q : Rat) : Nat := needF n w q 0 n
theorem needF_eq {n w : Nat} {q : Rat} {k : Nat} (hq : missR n w k ≤ q) : ∀ (f j : Nat), j ≤ k → k ≤ j + f → (∀ i, j ≤ i → i < k → ¬ missR n w i ≤ q) → needF n w q j f = k
  | 0, j, h1, h2, _ => by simp only [needF]; omega
  | f + 1, j, h1, h2, h3 => by
    simp only [needF]
    by_cases hj : j = k
    · subst hj; rw [if_pos hq]
    · rw [if_neg (h3 j (Nat.le_refl _) (by omega))]
      exact needF_eq hq f (j + 1) (by omega) (by omega) fun i h4 h5 => h3 i (by omega) h5
theorem needR_eq {n w : Nat} {q : Rat} {k : Nat} (hk : k ≤ n) (hq : missR n w k ≤ q) (h : ∀ i, i < k → ¬ missR n w i ≤ q) : needR n w q = k :=
  needF_eq hq n 0 (by omega) (by omega) fun i _ h5 => h i h5
theorem needR_ex {n w : Nat} {q : Rat} (h : missR n w n ≤ q) : ∃ k, k ≤ n ∧ missR n w k ≤ q ∧ ∀ i, i < k → ¬ missR n w i ≤ q := by
  have key : ∀ m, m ≤ n → (∀ i, i < m → ¬ missR n w i ≤ q) ∨ ∃ k, k < m ∧ missR n w k ≤ q ∧ ∀ i, i < k → ¬ missR n w i ≤ q := by
    intro m
    induction m with
    | zero => intro _; left; intro i hi; omega
    | succ m ih =>
      intro hm
      rcases ih (by omega) with h1 | ⟨k, h1, h2, h3⟩
      · by_cases hq : missR n w m ≤ q
        · exact .inr ⟨m, by omega, hq, h1⟩
        · left
          intro i hi
          by_cases e : i = m
          · subst e; exact hq
          · exact h1 i (by omega)
      · exact .inr ⟨k, by omega, h2, h3⟩
  rcases key n (Nat.le_refl _) with h1 | ⟨k, h1, h2, h3⟩
  · exact ⟨n, Nat.le_refl _, h, h1⟩
  · exact ⟨k, by omega, h2, h3⟩
theorem needR_spec {n w : Nat} {q : Rat} (h : missR n w n ≤ q) : needR n w q ≤ n ∧ missR n w (needR n w q) ≤ q ∧ ∀ i, i < needR n w q → ¬ missR n w i ≤ q := by
  obtain ⟨k, h1, h2, h3⟩ := needR_ex h
  rw [needR_eq h1 h2 h3]
  exact ⟨h1, h2, h3⟩
theorem needR_last {n w : Nat} {q : Rat} (hw : 0 < w) (hwn : w ≤ n) (hq : 0 < q) : missR n w n ≤ q := by
  rw [missR_end (by omega) (Nat.le_refl _)]
  exact Rat.le_of_lt hq
end Go.Pv
/- Orders of n elements, counted: plain facts. -/
namespace Go.Pv
/-- All orders of n elements that begin with b: f elements are to come. -/
def ords (n : Nat) : Nat → List Nat → List (List Nat)
  | 0, b => [b]
  | f + 1, b => (List.range n).flatMap fun x => if x ∈ b then [] else ords n f (b ++ [x])
def fact : Nat → Nat
  | 0 => 1
  | n + 1 => (n + 1) * fact n
theorem fact_pos : ∀ n, 0 < fact n
  | 0 => Nat.one_pos
  | n + 1 => Nat.mul_pos (by omega) (fact_pos n)
theorem desc_succ (m : Nat) : ∀ k, desc (m + 1) (k + 1) = (m + 1) * desc m k
  | 0 => by simp [desc]
  | k + 1 => by
    show desc (m + 1) (k + 1) * (m + 1 - (k + 1)) = (m + 1) * (desc m k * (m - k))
    rw [desc_succ m k, Nat.mul_assoc, show m + 1 - (k + 1) = m - k by omega]
theorem desc_fact {n : Nat} : ∀ {k : Nat}, k ≤ n → desc n k * fact (n - k) = fact n
  | 0, _ => by simp [desc]
  | k + 1, h => by
    have e : fact (n - k) = (n - k) * fact (n - (k + 1)) := by
      obtain ⟨m, hm⟩ : ∃ m, n - k = m + 1 := ⟨n - k - 1, by omega⟩
      rw [show n - (k + 1) = m by omega, hm, fact]
    rw [desc, ← desc_fact (n := n) (k := k) (by omega), Nat.mul_assoc, e]
def sumL (l : List Nat) (g : Nat → Nat) : Nat := (l.map g).sum
theorem sumL_const {l : List Nat} {p : Nat → Bool} {c : Nat} : sumL l (fun x => if p x = true then c else 0) = l.countP p * c := by
  induction l with
  | nil => simp [sumL]
  | cons x l ih =>
    simp only [sumL, List.map_cons, List.sum_cons] at ih ⊢
    rw [ih, List.countP_cons]
    by_cases h : p x = true
    · simp only [h, if_true]; rw [Nat.add_mul, Nat.one_mul, Nat.add_comm]
    · simp [h]
theorem sumL_congr {l : List Nat} {g h : Nat → Nat} (e : ∀ x ∈ l, g x = h x) : sumL l g = sumL l h := by
  unfold sumL
  rw [List.map_congr_left e]
theorem count_in {n : Nat} {b : List Nat} (hn : b.Nodup) (hb : ∀ x ∈ b, x < n) (p : Nat → Bool) (hp : ∀ x ∈ b, p x = true) : (List.range n).countP (fun x => decide (x ∈ b) && p x) = b.length := by
  rw [List.countP_eq_length_filter]
  apply List.Perm.length_eq
  rw [List.perm_ext_iff_of_nodup (List.Pairwise.filter _ List.nodup_range) hn]
  intro x
  rw [List.mem_filter, List.mem_range, Bool.and_eq_true, decide_eq_true_eq]
  exact ⟨fun h => h.2.1, fun h => ⟨hb x h, h, hp x h⟩⟩
theorem count_out {n : Nat} {b : List Nat} (hn : b.Nodup) (hb : ∀ x ∈ b, x < n) (p : Nat → Bool) (hp : ∀ x ∈ b, p x = true) : (List.range n).countP (fun x => !decide (x ∈ b) && p x) + b.length = (List.range n).countP p := by
  have key : ∀ l : List Nat, l.countP (fun x => !decide (x ∈ b) && p x) + l.countP (fun x => decide (x ∈ b) && p x) = l.countP p := by
    intro l
    induction l with
    | nil => rfl
    | cons x l ih =>
      simp only [List.countP_cons]
      by_cases h1 : x ∈ b <;> by_cases h2 : p x = true <;> simp [h1, h2] <;> omega
  rw [← key, count_in hn hb p hp]
theorem ords_count (n : Nat) (p : List Nat → Bool) : ∀ (f : Nat) (b : List Nat), (ords n (f + 1) b).countP p = sumL (List.range n) fun x => if x ∈ b then 0 else (ords n f (b ++ [x])).countP p := by
  intro f b
  rw [ords, List.countP_flatMap]
  unfold sumL
  congr 1
  apply List.map_congr_left
  intro x _
  simp only [Function.comp]
  split <;> rfl
theorem ords_pre {n : Nat} : ∀ (f : Nat) (b l : List Nat), l ∈ ords n f b → b <+: l
  | 0, b, l, h => by rw [ords, List.mem_singleton] at h; rw [h]; exact List.prefix_refl _
  | f + 1, b, l, h => by
    rw [ords, List.mem_flatMap] at h
    obtain ⟨x, -, h⟩ := h
    split at h
    · simp at h
    · exact (List.prefix_append _ _).trans (ords_pre f _ l h)
/-- What is in an order. -/
theorem ords_mem {n : Nat} : ∀ (f : Nat) (b l : List Nat), b.Nodup → (∀ x ∈ b, x < n) → b.length + f = n → l ∈ ords n f b → l.Nodup ∧ (∀ x ∈ l, x < n) ∧ l.length = n
  | 0, b, l, h1, h2, h3, h => by rw [ords, List.mem_singleton] at h; subst h; exact ⟨h1, h2, by omega⟩
  | f + 1, b, l, h1, h2, h3, h => by
    rw [ords, List.mem_flatMap] at h
    obtain ⟨x, hx, h⟩ := h
    split at h
    · simp at h
    · rename_i hxb
      refine ords_mem f (b ++ [x]) l ?_ ?_ (by simp; omega) h
      · rw [List.nodup_append]
        exact ⟨h1, by simp, fun a ha c hc e => by rw [List.mem_singleton] at hc; subst hc; subst e; exact hxb ha⟩
      · intro y hy
        rcases List.mem_append.1 hy with hy | hy
        · exact h2 y hy
        · rw [List.mem_singleton.1 hy]; exact List.mem_range.1 hx
theorem ords_all {n : Nat} : ∀ (f : Nat) (b : List Nat) (p : List Nat → Bool), b.Nodup → (∀ x ∈ b, x < n) → b.length + f = n → (∀ l, b <+: l → p l = true) → (ords n f b).countP p = fact f
  | 0, b, p, h1, h2, h3, hp => by simp [ords, fact, hp b (List.prefix_refl _)]
  | f + 1, b, p, h1, h2, h3, hp => by
    rw [ords_count, sumL_congr (h := fun x => if (!decide (x ∈ b) && (fun _ => true) x) = true then fact f else 0) ?_, sumL_const]
    · have := count_out h1 h2 (fun _ => true) (fun _ _ => rfl)
      rw [List.countP_true, List.length_range] at this
      have this : (List.range n).countP (fun x => !decide (x ∈ b) && (fun _ => true) x) + b.length = n := this
      rw [fact, show (List.range n).countP (fun x => !decide (x ∈ b) && (fun _ => true) x) = f + 1 by omega]
    · intro x hx
      by_cases hxb : x ∈ b
      · simp [hxb]
      · simp only [hxb, if_false, decide_false, Bool.not_false, Bool.and_true, if_true]
        refine ords_all f (b ++ [x]) p ?_ ?_ (by simp; omega) fun l hl => hp l ((List.prefix_append _ _).trans hl)
        · rw [List.nodup_append]
          exact ⟨h1, by simp, fun a ha c hc e => by rw [List.mem_singleton] at hc; subst hc; subst e; exact hxb ha⟩
        · intro y hy
          rcases List.mem_append.1 hy with hy | hy
          · exact h2 y hy
          · rw [List.mem_singleton.1 hy]; exact List.mem_range.1 hx
def firstOk (g : Nat → Bool) (K : Nat) (l : List Nat) : Bool := (l.take K).all g
theorem firstOk_pre {g : Nat → Bool} {K : Nat} {b l : List Nat} (h : b <+: l) (hK : K ≤ b.length) : firstOk g K l = firstOk g K b := by
  obtain ⟨c, rfl⟩ := h
  unfold firstOk
  rw [List.take_append_of_le_length hK]
theorem ords_first {n : Nat} (g : Nat → Bool) {K : Nat} : ∀ (f : Nat) (b : List Nat), b.Nodup → (∀ x ∈ b, x < n) → b.length + f = n → b.length ≤ K → K ≤ n → (∀ x ∈ b, g x = true) →
    (ords n f b).countP (firstOk g K) = desc ((List.range n).countP g - b.length) (K - b.length) * fact (n - K)
  | f, b, h1, h2, h3, h4, h5, h6 => by
    by_cases hK : b.length = K
    · rw [ords_all f b _ h1 h2 h3 fun l hl => ?_, hK, Nat.sub_self, desc, Nat.one_mul]
      · congr 1; omega
      · rw [firstOk_pre hl (by omega)]
        unfold firstOk
        rw [List.all_eq_true]
        exact fun x hx => h6 x (List.mem_of_mem_take hx)
    · cases f with
      | zero => omega
      | succ f =>
        have hc := count_out h1 h2 g h6
        have nd : ∀ x, x ∉ b → (b ++ [x]).Nodup := fun x hx => by
          rw [List.nodup_append]
          exact ⟨h1, by simp, fun a ha c hc e => by rw [List.mem_singleton] at hc; subst hc; subst e; exact hx ha⟩
        have lt : ∀ x, x < n → ∀ y ∈ b ++ [x], y < n := fun x hx y hy => by
          rcases List.mem_append.1 hy with hy | hy
          · exact h2 y hy
          · rw [List.mem_singleton.1 hy]; exact hx
        rw [ords_count, sumL_congr (h := fun x => if (!decide (x ∈ b) && g x) = true then desc ((List.range n).countP g - (b.length + 1)) (K - (b.length + 1)) * fact (n - K) else 0) ?_, sumL_const]
        · by_cases ha : (List.range n).countP g = b.length
          · rw [ha] at hc ⊢
            rw [show (List.range n).countP (fun x => !decide (x ∈ b) && g x) = 0 by omega, Nat.zero_mul, Nat.sub_self, desc_zero (by omega), Nat.zero_mul]
          · obtain ⟨m, hm⟩ : ∃ m, (List.range n).countP g = b.length + 1 + m := ⟨(List.range n).countP g - (b.length + 1), by omega⟩
            obtain ⟨k, hk⟩ : ∃ k, K = b.length + 1 + k := ⟨K - (b.length + 1), by omega⟩
            rw [show (List.range n).countP (fun x => !decide (x ∈ b) && g x) = m + 1 by omega, hm, show b.length + 1 + m - (b.length + 1) = m by omega, show b.length + 1 + m - b.length = m + 1 by omega,
              show K - (b.length + 1) = k by omega, show K - b.length = k + 1 by omega, desc_succ, Nat.mul_assoc]
        · intro x hx
          have hxn := List.mem_range.1 hx
          by_cases hxb : x ∈ b
          · simp [hxb]
          · simp only [hxb, if_false, decide_false, Bool.not_false, Bool.true_and]
            by_cases hg : g x = true
            · rw [if_pos hg]
              have := ords_first g (K := K) f (b ++ [x]) (nd x hxb) (lt x hxn) (by simp; omega) (by simp; omega) h5 (fun y hy => by
                rcases List.mem_append.1 hy with hy | hy
                · exact h6 y hy
                · rw [List.mem_singleton.1 hy]; exact hg)
              rw [this, List.length_append, List.length_singleton]
            · rw [if_neg hg]
              rw [List.countP_eq_zero]
              intro l hl hl2
              have hp := ords_pre f (b ++ [x]) l hl
              obtain ⟨c, rfl⟩ := hp
              unfold firstOk at hl2
              rw [List.all_eq_true] at hl2
              refine hg (hl2 x ?_)
              rw [List.append_assoc, List.take_append, List.mem_append]
              right
              obtain ⟨k, hk⟩ : ∃ k, K - b.length = k + 1 := ⟨K - b.length - 1, by omega⟩
              rw [hk]
              simp
termination_by f => f
end Go.Pv
