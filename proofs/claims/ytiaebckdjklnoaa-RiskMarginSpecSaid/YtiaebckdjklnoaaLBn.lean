/- Samples, counted: plain facts. -/
import Derived.Test.YtiaebckdjklnoaaLRt
namespace Go.Pv
theorem desc_add (n a : Nat) : ∀ b, desc n (a + b) = desc n a * desc (n - a) b
  | 0 => by simp [desc]
  | b + 1 => by
    rw [← Nat.add_assoc, desc, desc, desc_add n a b, Nat.mul_assoc, Nat.sub_sub]
theorem missR_symm {n w k : Nat} (hw : w ≤ n) (hk : k ≤ n) : missR n w k = missR n k w := by
  have h1 := desc_pos hw
  have h2 := desc_pos hk
  rw [missR_eq n w k hk, missR_eq n k w hw]
  refine (Rat.mkRat_eq_iff (by omega) (by omega)).2 ?_
  norm_cast
  have e1 := desc_add n w k
  have e2 := desc_add n k w
  rw [Nat.add_comm k w, e1] at e2
  rw [Nat.mul_comm, e2, Nat.mul_comm]
theorem missR_le1 {n w k : Nat} (hk : k ≤ n) : missR n w k ≤ 1 := missR_mono (n := n) (w := w) (Nat.zero_le k) hk
/-- Pascal's numbers. -/
def binom : Nat → Nat → Nat
  | _, 0 => 1
  | 0, _ + 1 => 0
  | n + 1, k + 1 => binom n k + binom n (k + 1)
theorem binom_zero (n : Nat) : binom n 0 = 1 := by cases n <;> rfl
theorem binom_over : ∀ {n k : Nat}, n < k → binom n k = 0
  | n, 0, h => by omega
  | 0, k + 1, _ => rfl
  | n + 1, k + 1, h => by rw [binom, binom_over (by omega), binom_over (by omega)]
theorem desc_step (n : Nat) : ∀ k, desc (n + 1) (k + 1) = desc n (k + 1) + (k + 1) * desc n k
  | 0 => by simp [desc]
  | k + 1 => by
    have ih := desc_step n k
    rw [desc, ih]
    by_cases h : k ≤ n
    · obtain ⟨m, rfl⟩ : ∃ m, n = k + m := ⟨n - k, by omega⟩
      have e1 : k + m + 1 - (k + 1) = m := by omega
      have e2 : desc (k + m) (k + 1) = desc (k + m) k * m := by rw [desc]; congr 1; omega
      have e3 : desc (k + m) (k + 1 + 1) = desc (k + m) k * m * (m - 1) := by rw [desc, e2]; congr 1; omega
      rw [e1, e3, e2]
      cases m with
      | zero => simp
      | succ m =>
        simp only [Nat.add_sub_cancel]
        generalize desc (k + (m + 1)) k = D
        simp only [Nat.add_mul, Nat.mul_add, Nat.one_mul, Nat.mul_one, Nat.mul_assoc]
        omega
    · have e0 : n + 1 - (k + 1) = 0 := by omega
      rw [e0, Nat.mul_zero, desc_zero (by omega), desc_zero (by omega)]
      simp
theorem binom_desc : ∀ n k, binom n k * fact k = desc n k
  | n, 0 => by simp [binom_zero, fact, desc]
  | 0, k + 1 => by rw [desc_zero (by omega)]; simp [binom]
  | n + 1, k + 1 => by
    rw [binom, Nat.add_mul, desc_step, binom_desc n (k + 1), fact, Nat.add_comm]
    congr 1
    rw [← binom_desc n k]
    ac_rfl
theorem binom_pos {n k : Nat} (h : k ≤ n) : 0 < binom n k := by
  have h1 := desc_pos h
  rw [← binom_desc] at h1
  exact Nat.pos_of_mul_pos_right h1
theorem binom_miss {n w k : Nat} (hk : k ≤ n) : mkRat (binom (n - w) k : Nat) (binom n k) = missR n w k := by
  rw [missR_eq n w k hk, ← binom_desc, ← binom_desc, Int.natCast_mul]
  exact (Rat.mkRat_mul_right (Nat.pos_iff_ne_zero.1 (fact_pos _))).symm
/-- How many bits are set. -/
def pop : Nat → Nat → Nat
  | 0, _ => 0
  | f + 1, n => n % 2 + pop f (n / 2)
theorem pop_zero : ∀ f, pop f 0 = 0
  | 0 => rfl
  | f + 1 => by rw [pop]; simp [pop_zero f]
theorem pop_fuel : ∀ {f g n : Nat}, n < 2 ^ f → n < 2 ^ g → pop f n = pop g n
  | 0, g, n, h, _ => by
    have : n = 0 := by simpa using h
    subst this
    rw [pop_zero, pop_zero]
  | f + 1, 0, n, _, h => by
    have : n = 0 := by simpa using h
    subst this
    rw [pop_zero, pop_zero]
  | f + 1, g + 1, n, h1, h2 => by
    rw [pop, pop, pop_fuel (f := f) (g := g) (n := n / 2) (by rw [Nat.pow_succ] at h1; omega) (by rw [Nat.pow_succ] at h2; omega)]
theorem pop_le : ∀ f n, pop f n ≤ f
  | 0, _ => Nat.le_refl _
  | f + 1, n => by have := pop_le f (n / 2); rw [pop]; omega
/-- How many samples of k of n sheets have no sheet of these. -/
def cntS (n k b : Nat) : Nat := (List.range (2 ^ n)).countP fun s => decide (pop n s = k) && decide (s &&& b = 0)
theorem countP_range_two {p : Nat → Bool} : ∀ m, (List.range (2 * m)).countP p = (List.range m).countP (fun s => p (2 * s)) + (List.range m).countP (fun s => p (2 * s + 1))
  | 0 => by simp
  | m + 1 => by
    have e : 2 * (m + 1) = 2 * m + 1 + 1 := by omega
    rw [e, List.range_succ, List.range_succ, List.range_succ]
    simp only [List.countP_append, List.countP_cons, List.countP_nil, countP_range_two m]
    omega
theorem and_two0 (s b : Nat) : (2 * s) &&& b = 2 * (s &&& (b / 2)) := by
  refine Nat.eq_of_testBit_eq fun i => ?_
  cases i with
  | zero => simp [Nat.testBit_zero]
  | succ i =>
    have h1 : 2 * s / 2 = s := by omega
    have h2 : 2 * (s &&& b / 2) / 2 = s &&& b / 2 := by omega
    rw [Nat.testBit_and, Nat.testBit_succ, Nat.testBit_succ, Nat.testBit_succ, h1, h2, Nat.testBit_and]
theorem and_two1 (s b : Nat) : (2 * s + 1) &&& b = 2 * (s &&& (b / 2)) + b % 2 := by
  refine Nat.eq_of_testBit_eq fun i => ?_
  cases i with
  | zero =>
    rw [Nat.testBit_and, Nat.testBit_zero, Nat.testBit_zero, Nat.testBit_zero]
    rcases Nat.mod_two_eq_zero_or_one b with h | h
    · have e1 : (2 * (s &&& b / 2) + b % 2) % 2 = 0 := by omega
      rw [e1, h]; simp
    · have e1 : (2 * (s &&& b / 2) + b % 2) % 2 = 1 := by omega
      have e2 : (2 * s + 1) % 2 = 1 := by omega
      rw [e1, e2, h]; simp
  | succ i =>
    have h1 : (2 * s + 1) / 2 = s := by omega
    have h2 : (2 * (s &&& b / 2) + b % 2) / 2 = s &&& b / 2 := by omega
    rw [Nat.testBit_and, Nat.testBit_succ, Nat.testBit_succ, Nat.testBit_succ, h1, h2, Nat.testBit_and]
theorem cntS_eq : ∀ n k b, b < 2 ^ n → cntS n k b = binom (n - pop n b) k
  | 0, k, b, h => by
    have : b = 0 := by simpa using h
    subst this
    cases k <;> simp [cntS, pop, binom]
  | n + 1, k, b, h => by
    have hb : b / 2 < 2 ^ n := by rw [Nat.pow_succ] at h; omega
    have ih := fun k => cntS_eq n k (b / 2) hb
    have hp := pop_le n (b / 2)
    unfold cntS
    rw [Nat.pow_succ, Nat.mul_comm, countP_range_two]
    have e0 : ∀ s, (decide (pop (n + 1) (2 * s) = k) && decide ((2 * s) &&& b = 0)) = (decide (pop n s = k) && decide (s &&& (b / 2) = 0)) := fun s => by
      rw [and_two0, pop]
      have h1 : 2 * s % 2 = 0 := by omega
      have h2 : 2 * s / 2 = s := by omega
      rw [h1, h2, Nat.zero_add]
      congr 1
      exact decide_eq_decide.2 (by omega)
    have e1 : ∀ s, (decide (pop (n + 1) (2 * s + 1) = k) && decide ((2 * s + 1) &&& b = 0)) = (decide (b % 2 = 0) && (decide (pop n s + 1 = k) && decide (s &&& (b / 2) = 0))) := fun s => by
      rw [and_two1, pop]
      have h1 : (2 * s + 1) % 2 = 1 := by omega
      have h2 : (2 * s + 1) / 2 = s := by omega
      rw [h1, h2, Nat.add_comm 1]
      by_cases hb2 : b % 2 = 0
      · rw [hb2, decide_eq_true rfl, Bool.true_and]
        congr 1
        exact decide_eq_decide.2 (by omega)
      · rw [decide_eq_false hb2, Bool.false_and, decide_eq_false (show ¬ 2 * (s &&& b / 2) + b % 2 = 0 by omega), Bool.and_false]
    simp only [e0, e1]
    have i0 : (List.range (2 ^ n)).countP (fun s => decide (pop n s = k) && decide (s &&& (b / 2) = 0)) = binom (n - pop n (b / 2)) k := ih k
    rw [i0, pop]
    by_cases hb2 : b % 2 = 0
    · rw [hb2]
      simp only [decide_true, Bool.true_and, Nat.zero_add]
      have en : n + 1 - pop n (b / 2) = (n - pop n (b / 2)) + 1 := by omega
      rw [en]
      cases k with
      | zero =>
        rw [binom_zero, binom_zero]
        have : (List.range (2 ^ n)).countP (fun s => decide (pop n s + 1 = 0) && decide (s &&& (b / 2) = 0)) = 0 := by
          rw [List.countP_eq_zero]; intro s _; simp
        rw [this]
      | succ k =>
        have i1 : (List.range (2 ^ n)).countP (fun s => decide (pop n s + 1 = k + 1) && decide (s &&& (b / 2) = 0)) = binom (n - pop n (b / 2)) k := by
          have := ih k
          unfold cntS at this
          rw [← this]
          refine List.countP_congr fun s _ => ?_
          simp
        rw [i1, binom, Nat.add_comm]
    · have hb1 : b % 2 = 1 := by omega
      rw [hb1]
      simp only [decide_false, Bool.false_and, Nat.one_ne_zero]
      have z : (List.range (2 ^ n)).countP (fun _ => false) = 0 := by rw [List.countP_eq_zero]; intro s _; simp
      rw [z, Nat.add_zero]
      congr 1
      omega
end Go.Pv
/- Choices of k elements and their sums; the greatest such sum: plain facts. -/
namespace Go.Pv
/-- Some k elements of a list have this sum. -/
def Ch : List Int → Nat → Int → Prop
  | [], k, v => k = 0 ∧ v = 0
  | x :: l, k, v => Ch l k v ∨ ∃ j, k = j + 1 ∧ Ch l j (v - x)
theorem Ch.perm {l m : List Int} (h : l.Perm m) : ∀ k v, Ch l k v ↔ Ch m k v := by
  induction h with
  | nil => exact fun _ _ => Iff.rfl
  | cons x _ ih =>
    intro k v
    simp only [Ch, ih]
  | swap x y l =>
    intro k v
    simp only [Ch]
    constructor
    · rintro ((h | ⟨j, rfl, h⟩) | ⟨j, rfl, (h | ⟨i, rfl, h⟩)⟩)
      · exact .inl (.inl h)
      · exact .inr ⟨j, rfl, .inl h⟩
      · exact .inl (.inr ⟨j, rfl, h⟩)
      · exact .inr ⟨i + 1, rfl, .inr ⟨i, rfl, by rw [show v - x - y = v - y - x by omega]; exact h⟩⟩
    · rintro ((h | ⟨j, rfl, h⟩) | ⟨j, rfl, (h | ⟨i, rfl, h⟩)⟩)
      · exact .inl (.inl h)
      · exact .inr ⟨j, rfl, .inl h⟩
      · exact .inl (.inr ⟨j, rfl, h⟩)
      · exact .inr ⟨i + 1, rfl, .inr ⟨i, rfl, by rw [show v - y - x = v - x - y by omega]; exact h⟩⟩
  | trans _ _ ih1 ih2 => exact fun k v => (ih1 k v).trans (ih2 k v)
theorem Ch.len : ∀ {l : List Int} {k : Nat} {v : Int}, Ch l k v → k ≤ l.length
  | [], k, v, h => by have := h.1; simp; omega
  | x :: l, k, v, h => by
    rcases h with h | ⟨j, rfl, h⟩
    · have := Ch.len h; simp only [List.length_cons]; omega
    · have := Ch.len h; simp only [List.length_cons]; omega
theorem Ch.zero : ∀ (l : List Int), Ch l 0 0
  | [] => ⟨rfl, rfl⟩
  | _ :: l => .inl (Ch.zero l)
theorem Ch.zero_val : ∀ {l : List Int} {v : Int}, Ch l 0 v → v = 0
  | [], _, h => h.2
  | _ :: l, v, h => by
    rcases h with h | ⟨j, e, _⟩
    · exact Ch.zero_val h
    · omega
/-- Falling. -/
def Fall (l : List Int) : Prop := l.Pairwise fun a b => b ≤ a
theorem Ch.top : ∀ {l : List Int} {k : Nat}, k ≤ l.length → Ch l k (l.take k).sum
  | l, 0, _ => by simpa using Ch.zero l
  | [], k + 1, h => by simp at h
  | x :: l, k + 1, h => by
    refine .inr ⟨k, rfl, ?_⟩
    have := Ch.top (l := l) (k := k) (by simpa using h)
    rw [List.take_succ_cons, List.sum_cons, show x + (l.take k).sum - x = (l.take k).sum by omega]
    exact this
theorem fall_take {x : Int} : ∀ {l : List Int} {k : Nat}, (∀ y ∈ l, y ≤ x) → k < l.length → (l.take (k + 1)).sum ≤ x + (l.take k).sum
  | l, k, h, hk => by
    rw [List.take_succ_eq_append_getElem hk, List.sum_append]
    have := h _ (List.getElem_mem hk)
    simp only [List.sum_cons, List.sum_nil]
    omega
theorem Ch.le : ∀ {l : List Int} {k : Nat} {v : Int}, Fall l → Ch l k v → v ≤ (l.take k).sum
  | [], k, v, _, h => by rw [h.2]; simp
  | x :: l, k, v, hf, h => by
    obtain ⟨h1, h2⟩ := List.pairwise_cons.1 hf
    rcases h with h | ⟨j, rfl, h⟩
    · have ih := Ch.le h2 h
      cases k with
      | zero => simpa using ih
      | succ k =>
        have hl := Ch.len h
        have := fall_take (k := k) h1 (by omega)
        rw [List.take_succ_cons, List.sum_cons]
        omega
    · have ih := Ch.le h2 h
      rw [List.take_succ_cons, List.sum_cons]
      omega
/-- The sum of a sample. -/
def maskS : List Int → Nat → Int
  | [], _ => 0
  | x :: l, m => (if m % 2 = 1 then x else 0) + maskS l (m / 2)
theorem Ch.mask : ∀ (l : List Int) (m : Nat), Ch l (pop l.length m) (maskS l m)
  | [], m => ⟨rfl, rfl⟩
  | x :: l, m => by
    have ih := Ch.mask l (m / 2)
    rcases Nat.mod_two_eq_zero_or_one m with h | h
    · refine .inl ?_
      simp only [List.length_cons, pop, maskS, h]
      simpa using ih
    · refine .inr ⟨pop l.length (m / 2), ?_, ?_⟩
      · simp only [List.length_cons, pop, h]; omega
      · simp only [maskS, h, if_true]
        rw [show x + maskS l (m / 2) - x = maskS l (m / 2) by omega]
        exact ih
theorem Ch.ex : ∀ {l : List Int} {k : Nat} {v : Int}, Ch l k v → ∃ m, m < 2 ^ l.length ∧ pop l.length m = k ∧ maskS l m = v
  | [], k, v, h => ⟨0, by simp, h.1.symm, h.2.symm⟩
  | x :: l, k, v, h => by
    rcases h with h | ⟨j, rfl, h⟩
    · obtain ⟨m, h1, h2, h3⟩ := Ch.ex h
      refine ⟨2 * m, by rw [List.length_cons, Nat.pow_succ]; omega, ?_, ?_⟩
      · rw [List.length_cons, pop, show 2 * m % 2 = 0 by omega, show 2 * m / 2 = m by omega, h2]; omega
      · rw [maskS, show 2 * m % 2 = 0 by omega, show 2 * m / 2 = m by omega, h3]; simp
    · obtain ⟨m, h1, h2, h3⟩ := Ch.ex h
      refine ⟨2 * m + 1, by rw [List.length_cons, Nat.pow_succ]; omega, ?_, ?_⟩
      · rw [List.length_cons, pop, show (2 * m + 1) % 2 = 1 by omega, show (2 * m + 1) / 2 = m by omega, h2]; omega
      · rw [maskS, show (2 * m + 1) % 2 = 1 by omega, show (2 * m + 1) / 2 = m by omega, h3]; simp; omega
/-- The sum so far, element by element. -/
theorem maskS_get {l : List Int} {m j : Nat} (h : j < l.length) : maskS (l.take (j + 1)) m = maskS (l.take j) m + if m / 2 ^ j % 2 = 1 then l[j] else 0 := by
  induction l generalizing m j with
  | nil => simp at h
  | cons x l ih =>
    cases j with
    | zero => simp [maskS]
    | succ j =>
      have hj : j < l.length := by simpa using h
      have e : m / 2 / 2 ^ j = m / 2 ^ (j + 1) := by rw [Nat.div_div_eq_div_mul, Nat.pow_succ, Nat.mul_comm]
      simp only [List.take_succ_cons, maskS, ih hj, e, List.getElem_cons_succ]
      omega
/-- The greatest sum of k elements. -/
structure Best (l : List Int) (k : Nat) (v : Int) : Prop where
  ch : Ch l k v
  le : ∀ u, Ch l k u → u ≤ v
theorem Best.top {l s : List Int} {k : Nat} (hp : s.Perm l) (hs : Fall s) (hk : k ≤ l.length) : Best l k (s.take k).sum :=
  ⟨(Ch.perm hp _ _).1 (Ch.top (by rw [hp.length_eq]; exact hk)), fun u hu => Ch.le hs ((Ch.perm hp _ _).2 hu)⟩
end Go.Pv
/- The greatest sums over all samples, tried one by one: plain facts. -/
namespace Go.Pv
theorem maskS_nonneg : ∀ {l : List Int} (_ : ∀ x ∈ l, 0 ≤ x) (m : Nat), 0 ≤ maskS l m
  | [], _, _ => Int.le_refl _
  | x :: l, h, m => by
    have h1 := maskS_nonneg (l := l) (fun y hy => h y (by simp [hy])) (m / 2)
    have h2 := h x (by simp)
    simp only [maskS]
    split <;> omega
/-- The greatest sum of the samples below i that are asked for. -/
def bestAt (l : List Int) (p : Nat → Bool) : Nat → Int
  | 0 => 0
  | i + 1 => if p i = true then max (bestAt l p i) (maskS l i) else bestAt l p i
theorem bestAt_le {l : List Int} {p : Nat → Bool} {v : Int} (hv : 0 ≤ v) : ∀ i, (∀ m, m < i → p m = true → maskS l m ≤ v) → bestAt l p i ≤ v
  | 0, _ => hv
  | i + 1, h => by
    have ih := bestAt_le hv i fun m hm => h m (by omega)
    rw [bestAt]
    split
    · rename_i hp
      have := h i (by omega) hp
      omega
    · exact ih
theorem bestAt_ge {l : List Int} {p : Nat → Bool} : ∀ {i m : Nat}, m < i → p m = true → maskS l m ≤ bestAt l p i
  | i + 1, m, h, hp => by
    rw [bestAt]
    by_cases e : m = i
    · subst e
      rw [if_pos hp]
      omega
    · have ih := bestAt_ge (l := l) (p := p) (show m < i by omega) hp
      split
      · omega
      · exact ih
theorem Best.nonneg {l : List Int} {k : Nat} {v : Int} (h : Best l k v) (hl : ∀ x ∈ l, 0 ≤ x) : 0 ≤ v := by
  obtain ⟨m, -, -, e⟩ := Ch.ex h.ch
  rw [← e]
  exact maskS_nonneg hl m
theorem bestAt_best {l : List Int} {k : Nat} {v : Int} (h : Best l k v) (hl : ∀ x ∈ l, 0 ≤ x) : bestAt l (fun m => decide (pop l.length m = k)) (2 ^ l.length) = v := by
  refine Int.le_antisymm (bestAt_le (h.nonneg hl) _ fun m _ hp => ?_) ?_
  · refine h.le _ ?_
    have := Ch.mask l m
    rwa [of_decide_eq_true hp] at this
  · obtain ⟨m, h1, h2, h3⟩ := Ch.ex h.ch
    rw [← h3]
    exact bestAt_ge h1 (by rw [decide_eq_true h2])
theorem take_sum_mono {s : List Int} (h : ∀ x ∈ s, 0 ≤ x) {j k : Nat} (hjk : j ≤ k) : (s.take j).sum ≤ (s.take k).sum := by
  induction s generalizing j k with
  | nil => simp
  | cons x s ih =>
    cases j with
    | zero =>
      cases k with
      | zero => simp
      | succ k =>
        have h1 := ih (fun y hy => h y (by simp [hy])) (Nat.zero_le k)
        have h2 := h x (by simp)
        simp only [List.take_zero, List.sum_nil, List.take_succ_cons, List.sum_cons] at h1 ⊢
        omega
    | succ j =>
      cases k with
      | zero => omega
      | succ k =>
        have h1 := ih (fun y hy => h y (by simp [hy])) (show j ≤ k by omega)
        simp only [List.take_succ_cons, List.sum_cons]
        omega
/-- The greatest sum of at most k elements. -/
theorem bestAt_most {l s : List Int} {k : Nat} (hp : s.Perm l) (hs : Fall s) (hl : ∀ x ∈ l, 0 ≤ x) : bestAt l (fun m => decide (pop l.length m ≤ k)) (2 ^ l.length) = (s.take k).sum := by
  have hl2 : ∀ x ∈ s, 0 ≤ x := fun x hx => hl x (hp.mem_iff.1 hx)
  refine Int.le_antisymm (bestAt_le (take_sum_mono hl2 (Nat.zero_le k)) _ fun m _ hm => ?_) ?_
  · have h1 := of_decide_eq_true hm
    have h2 := (Best.top hp hs (Ch.mask l m).len).le _ (Ch.mask l m)
    exact Int.le_trans h2 (take_sum_mono hl2 h1)
  · have e : (s.take k).sum = (s.take (min k l.length)).sum := by
      by_cases hk : k ≤ l.length
      · rw [Nat.min_eq_left hk]
      · have hn := hp.length_eq
        rw [Nat.min_eq_right (by omega), List.take_of_length_le (by omega), List.take_of_length_le (by omega)]
    rw [e]
    obtain ⟨m, h1, h2, h3⟩ := Ch.ex (Best.top hp hs (Nat.min_le_right k l.length)).ch
    rw [← h3]
    exact bestAt_ge h1 (by rw [h2, decide_eq_true_eq]; omega)
/-- How many elements reach a gap. -/
structure Marg (s : List Int) (gap : Int) (w : Nat) : Prop where
  le : w ≤ s.length + 1
  iff : ∀ k, k ≤ s.length → (gap ≤ (s.take k).sum ↔ w ≤ k)
theorem Marg.reach {s : List Int} {gap : Int} {w : Nat} (h : ∀ x ∈ s, 0 ≤ x) (hw : w ≤ s.length) (h1 : ∀ j, j < w → (s.take j).sum < gap) (h2 : gap ≤ (s.take w).sum) : Marg s gap w :=
  ⟨by omega, fun k _ => ⟨fun hk => by
    by_cases hh : w ≤ k
    · exact hh
    · have := h1 k (by omega); omega, fun hk => Int.le_trans h2 (take_sum_mono h hk)⟩⟩
theorem Marg.none {s : List Int} {gap : Int} (h1 : ∀ j, j ≤ s.length → (s.take j).sum < gap) : Marg s gap (s.length + 1) :=
  ⟨Nat.le_refl _, fun k hk => ⟨fun h => by have := h1 k hk; omega, fun h => by omega⟩⟩
theorem Marg.uniq {s : List Int} {gap : Int} {v w : Nat} (h : Marg s gap v) (k : Marg s gap w) : v = w := by
  by_cases hv : v ≤ s.length
  · have h1 := (k.iff v hv).1 ((h.iff v hv).2 (Nat.le_refl _))
    have h2 := (h.iff w (by omega)).1 ((k.iff w (by omega)).2 (Nat.le_refl _))
    omega
  · by_cases hw : w ≤ s.length
    · have h1 := (h.iff w hw).1 ((k.iff w hw).2 (Nat.le_refl _))
      omega
    · have := h.le
      have := k.le
      omega
theorem Marg.ex {s : List Int} (h : ∀ x ∈ s, 0 ≤ x) (gap : Int) : ∃ w, Marg s gap w := by
  have key : ∀ n, n ≤ s.length + 1 → (∃ w, Marg s gap w) ∨ ∀ j, j < n → (s.take j).sum < gap := by
    intro n
    induction n with
    | zero => exact fun _ => .inr fun j hj => absurd hj (Nat.not_lt_zero _)
    | succ n ih =>
      intro hn
      rcases ih (by omega) with h1 | h1
      · exact .inl h1
      · by_cases h2 : (s.take n).sum < gap
        · refine .inr fun j hj => ?_
          rcases Nat.lt_succ_iff_lt_or_eq.1 hj with h3 | h3
          · exact h1 j h3
          · rw [h3]; exact h2
        · exact .inl ⟨n, Marg.reach h (by omega) h1 (by omega)⟩
  rcases key (s.length + 1) (Nat.le_refl _) with h1 | h1
  · exact h1
  · exact ⟨_, Marg.none fun j hj => h1 j (by omega)⟩
theorem take_sum_le {s : List Int} {M : Int} (h : ∀ x ∈ s, x ≤ M) (hM : 0 ≤ M) : ∀ k, (s.take k).sum ≤ k * M
  | 0 => by simp
  | k + 1 => by
    have ih := take_sum_le h hM k
    by_cases hk : k < s.length
    · rw [List.take_succ_eq_append_getElem hk, List.sum_append]
      have := h _ (List.getElem_mem hk)
      have e : ((k + 1 : Nat) : Int) * M = k * M + M := by rw [Int.natCast_add, Int.add_mul]; simp
      simp only [List.sum_cons, List.sum_nil]
      omega
    · rw [List.take_of_length_le (by omega)]
      rw [List.take_of_length_le (by omega)] at ih
      have e : ((k + 1 : Nat) : Int) * M = k * M + M := by rw [Int.natCast_add, Int.add_mul]; simp
      omega
theorem Fall.uniq : ∀ {l m : List Int}, Fall l → Fall m → l.Perm m → l = m
  | [], m, _, _, h => by have := h.length_eq; cases m with | nil => rfl | cons => simp at this
  | x :: l, [], _, _, h => by have := h.length_eq; simp at this
  | x :: l, y :: m, h1, h2, h => by
    obtain ⟨a1, a2⟩ := List.pairwise_cons.1 h1
    obtain ⟨b1, b2⟩ := List.pairwise_cons.1 h2
    have e : x = y := by
      have hx : x ∈ y :: m := h.mem_iff.1 (by simp)
      have hy : y ∈ x :: l := h.mem_iff.2 (by simp)
      rcases List.mem_cons.1 hx with e | hx
      · exact e
      · rcases List.mem_cons.1 hy with e | hy
        · exact e.symm
        · have := a1 y hy
          have := b1 x hx
          omega
    subst e
    rw [Fall.uniq a2 b2 ((List.perm_cons x).1 h)]
end Go.Pv
/- Bits of small numbers in ints. -/
namespace Go.Pv
section
variable (a b : Nat) (K : PV → Prop)
@[simp high] theorem xand_nat (ha : a < 4611686018427387904) (hb : b < 4611686018427387904) : xbin .and (.val (.int .i64 (a : Int))) (.val (.int .i64 (b : Int))) K = K (.val (.int .i64 ((a &&& b : Nat) : Int))) := by
  have h : IntKind.i64.wrap ((BitVec.ofInt 64 (a : Int) &&& BitVec.ofInt 64 (b : Int)).toNat : Int) = ((a &&& b : Nat) : Int) := by
    rw [BitVec.toNat_and, ofInt_toNat, ofInt_toNat]
    have h1 : (((a : Int)) % ((2 ^ 64 : Nat) : Int)).toNat = a := by omega
    have h2 : (((b : Int)) % ((2 ^ 64 : Nat) : Int)).toNat = b := by omega
    rw [h1, h2]
    have := Nat.and_le_left (n := a) (m := b)
    exact wrap_in (by omega) (by omega)
  rw [bin_and]
  show (IntKind.i64 = IntKind.i64 ∧ K (.val (.int .i64 (IntKind.i64.wrap ((BitVec.ofInt 64 (a : Int) &&& BitVec.ofInt 64 (b : Int)).toNat : Int))))) = _
  rw [h]
  simp
@[simp high] theorem xand_one (ha : a < 4611686018427387904) : xbin .and (.val (.int .i64 (a : Int))) (.val (.int .i64 1)) K = K (.val (.int .i64 ((a % 2 : Nat) : Int))) := by
  have := xand_nat a 1 K ha (by decide)
  rw [Nat.and_one_is_mod] at this
  exact this
@[simp high] theorem xshr_nat (hb : b < 64) : xbin .shr (.val (.int .i64 (a : Int))) (.val (.int .i64 (b : Int))) K = K (.val (.int .i64 ((a / 2 ^ b : Nat) : Int))) := by
  rw [bin_shr]
  have e : min (b : Int).toNat IntKind.i64.bits = b := by
    show min (b : Int).toNat 64 = b
    omega
  rw [e, Int.fdiv_eq_ediv_of_nonneg _ (Int.le_of_lt (Int.pow_pos (by decide)))]
  have e2 : ((a : Int) / 2 ^ b) = ((a / 2 ^ b : Nat) : Int) := by
    rw [Int.natCast_ediv, Int.natCast_pow]
    rfl
  rw [e2]
  simp
@[simp high] theorem xshl_one (hb : b ≤ 40) : xbin .shl (.val (.int .i64 1)) (.val (.int .i64 (b : Int))) K = K (.val (.int .i64 ((2 ^ b : Nat) : Int))) := by
  rw [bin_shl]
  have e : min (b : Int).toNat IntKind.i64.bits = b := by
    show min (b : Int).toNat 64 = b
    omega
  have h1 : 2 ^ b ≤ 2 ^ 40 := Nat.pow_le_pow_right (by decide) hb
  have h2 : ((2 : Int) ^ b) = ((2 ^ b : Nat) : Int) := by rw [Int.natCast_pow]; rfl
  rw [e, Int.one_mul, h2]
  generalize 2 ^ b = p at *
  rw [wrap_in (by omega) (by omega)]
  simp
end
end Go.Pv
