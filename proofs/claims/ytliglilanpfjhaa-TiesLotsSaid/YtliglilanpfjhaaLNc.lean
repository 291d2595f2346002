/- Reckoning by digits: plain facts of sums, products and short division. -/
import Derived.Test.YtliglilanpfjhaaLRt
namespace Go.Pv
/-- Digits that are carried. -/
def carD (f : Nat → Int) : Nat → List Int × Int
  | 0 => ([], 0)
  | n + 1 => let p := carD f n; let s := f n + p.2; (p.1 ++ [s % BB], s / BB)
def sumD (f : Nat → Int) : Nat → Int
  | 0 => 0
  | n + 1 => sumD f n + PB n * f n
theorem carD_len (f : Nat → Int) : ∀ n, (carD f n).1.length = n
  | 0 => rfl
  | n + 1 => by simp [carD, carD_len f n]
theorem carD_ok (f : Nat → Int) : ∀ n, dOk (carD f n).1
  | 0 => dOk_nil
  | n + 1 => by
    simp only [carD]
    refine dOk_append.2 ⟨carD_ok f n, fun d hd => ?_⟩
    rw [List.mem_singleton.1 hd]
    exact ⟨Int.emod_nonneg _ (by decide), Int.emod_lt_of_pos _ (by decide)⟩
theorem carD_sum (f : Nat → Int) : ∀ n, dv (carD f n).1 + PB n * (carD f n).2 = sumD f n
  | 0 => rfl
  | n + 1 => by
    simp only [carD, sumD]
    rw [dv_snoc, carD_len, ← carD_sum f n, PB_succ]
    have h := Int.emod_add_mul_ediv (f n + (carD f n).2) BB
    have e : PB n * ((f n + (carD f n).2) % BB) + BB * PB n * ((f n + (carD f n).2) / BB) = PB n * (f n + (carD f n).2) := by
      conv => rhs; rw [← h, Int.mul_add, ← Int.mul_assoc, Int.mul_comm (PB n) BB]
    rw [Int.mul_add] at e
    omega
theorem carD_over {f : Nat → Int} {n : Nat} (h : ∀ i, i < n → -2305843009213693952 ≤ f i ∧ f i ≤ 2305843009213693952) : -4294967296 ≤ (carD f n).2 ∧ (carD f n).2 ≤ 4294967296 := by
  induction n with
  | zero => simp [carD]
  | succ n ih =>
    have h1 := ih fun i hi => h i (by omega)
    have h2 := h n (by omega)
    simp only [carD]
    unfold BB
    omega
theorem carD_digs {f : Nat → Int} {n m : Nat} (hs : sumD f n = m) (hm : (m : Int) < PB n) : trimD (carD f n).1 = digs m := by
  have h1 := carD_sum f n
  have h2 := carD_ok f n
  have h3 := dv_nonneg h2
  have h4 := dv_lt h2
  rw [carD_len] at h4
  have hp := PB_pos n
  refine trimD_eq h2 ?_
  have h0 : (carD f n).2 = 0 := by
    apply Int.le_antisymm
    · apply Int.not_lt.1
      intro h
      have := Int.mul_le_mul_of_nonneg_left (show 1 ≤ (carD f n).2 by omega) (show 0 ≤ PB n by omega)
      omega
    · apply Int.not_lt.1
      intro h
      have := Int.mul_le_mul_of_nonneg_left (show (carD f n).2 ≤ -1 by omega) (show 0 ≤ PB n by omega)
      omega
  rw [h0, Int.mul_zero] at h1
  omega
/-- The digit at a place, or 0. -/
def dAt (l : List Int) (i : Nat) : Int := l.getD i 0
theorem dAt_lt {l : List Int} {i : Nat} (h : i < l.length) : dAt l i = l[i] := by simp [dAt, h]
theorem dAt_ge {l : List Int} {i : Nat} (h : l.length ≤ i) : dAt l i = 0 := by simp [dAt, h]
theorem dAt_ok {l : List Int} (h : dOk l) (i : Nat) : 0 ≤ dAt l i ∧ dAt l i < BB := by
  by_cases hi : i < l.length
  · rw [dAt_lt hi]; exact h _ (List.getElem_mem hi)
  · rw [dAt_ge (by omega)]; decide
theorem sumD_take (l : List Int) : ∀ n, sumD (dAt l) n = dv (l.take n)
  | 0 => rfl
  | n + 1 => by
    rw [sumD, sumD_take l n]
    by_cases h : n < l.length
    · rw [dv_take_succ h, dAt_lt h]
    · rw [dAt_ge (by omega), Int.mul_zero, Int.add_zero, List.take_of_length_le (by omega), List.take_of_length_le (by omega)]
theorem sumD_full {l : List Int} {n : Nat} (h : l.length ≤ n) : sumD (dAt l) n = dv l := by rw [sumD_take, List.take_of_length_le h]
theorem sumD_add (f g : Nat → Int) : ∀ n, sumD (fun i => f i + g i) n = sumD f n + sumD g n
  | 0 => rfl
  | n + 1 => by
    simp only [sumD]; rw [sumD_add f g n, Int.mul_add]; omega
theorem sumD_sub (f g : Nat → Int) : ∀ n, sumD (fun i => f i - g i) n = sumD f n - sumD g n
  | 0 => rfl
  | n + 1 => by
    simp only [sumD]; rw [sumD_sub f g n, Int.mul_sub]; omega
theorem sumD_mul (f : Nat → Int) (c : Int) : ∀ n, sumD (fun i => f i * c) n = sumD f n * c
  | 0 => by simp [sumD]
  | n + 1 => by
    simp only [sumD]; rw [sumD_mul f c n, Int.add_mul, Int.mul_assoc]
theorem sumD_congr {f g : Nat → Int} : ∀ {n : Nat}, (∀ i, i < n → f i = g i) → sumD f n = sumD g n
  | 0, _ => rfl
  | n + 1, h => by
    simp only [sumD]; rw [sumD_congr (n := n) fun i hi => h i (by omega), h n (by omega)]
theorem carD_congr {f g : Nat → Int} : ∀ {n : Nat}, (∀ i, i < n → f i = g i) → carD f n = carD g n
  | 0, _ => rfl
  | n + 1, h => by
    simp only [carD]; rw [carD_congr (n := n) fun i hi => h i (by omega), h n (by omega)]
/-- A digit is written. -/
theorem dv_set {l : List Int} {i : Nat} (h : i < l.length) (d : Int) : dv (l.set i d) = dv l + PB i * (d - l[i]) := by
  have e1 := dv_split l i (by omega)
  have e2 := dv_split (l.set i d) i (by rw [List.length_set]; omega)
  rw [List.take_set_of_le (by omega)] at e2
  have e3 : (l.set i d).drop i = d :: l.drop (i + 1) := by
    rw [List.drop_eq_getElem_cons (by rw [List.length_set]; exact h), List.getElem_set_self, List.drop_set_of_lt (by omega)]
  have e4 : l.drop i = l[i] :: l.drop (i + 1) := List.drop_eq_getElem_cons h
  rw [e3, dv_cons] at e2
  rw [e4, dv_cons] at e1
  rw [e1, e2, Int.mul_sub, Int.mul_add, Int.mul_add]
  omega
theorem dOk_set {l : List Int} (h : dOk l) (i : Nat) {d : Int} (hd : 0 ≤ d ∧ d < BB) : dOk (l.set i d) := by
  intro x hx
  rcases List.mem_or_eq_of_mem_set hx with hx | rfl
  · exact h x hx
  · exact hd
theorem dOk_zeros (n : Nat) : dOk (List.replicate n 0) := by
  intro d hd
  rw [(List.mem_replicate.1 hd).2]
  decide
theorem dOk_get {l : List Int} (h : dOk l) {i : Nat} (hi : i < l.length) : 0 ≤ l[i] ∧ l[i] < BB := h _ (List.getElem_mem hi)
theorem dOk_take {l : List Int} (h : dOk l) (i : Nat) : dOk (l.take i) := fun d hd => h d (List.mem_of_mem_take hd)
theorem dOk_drop {l : List Int} (h : dOk l) (i : Nat) : dOk (l.drop i) := fun d hd => h d (List.mem_of_mem_drop hd)
/-- How lists of digits are compared. -/
theorem dv_lt_of_len {l m : List Int} (hl : dOk l) (hm : Canon m) (h : l.length < m.length) : dv l < dv m := by
  have h1 := dv_lt hl
  obtain ⟨n, rfl⟩ : ∃ n, m = digs n := ⟨_, canon_eq hm⟩
  have hn : n ≠ 0 := by
    rintro rfl
    rw [digs_zero] at h
    simp at h
  have h2 := digs_len_ge hn
  have h3 := PB_mono (show l.length ≤ (digs n).length - 1 by omega)
  rw [dv_digs]
  omega
/-- From a digit on, downwards. -/
theorem dv_drop_succ {l : List Int} {i : Nat} (h : i < l.length) : dv (l.drop i) = l[i] + BB * dv (l.drop (i + 1)) := by
  rw [List.drop_eq_getElem_cons h, dv_cons]
theorem dv_top_lt {l m : List Int} (hl : dOk l) (hm : dOk m) {i : Nat} (h1 : i < l.length) (h2 : i < m.length) (he : l.drop (i + 1) = m.drop (i + 1)) (hlt : l[i] < m[i]) : dv l < dv m := by
  rw [dv_split l i (by omega), dv_split m i (by omega), dv_drop_succ h1, dv_drop_succ h2, he]
  have a1 := dv_lt (dOk_take hl i)
  have a2 := dv_nonneg (dOk_take hm i)
  rw [List.length_take, Nat.min_eq_left (by omega)] at a1
  have a3 : PB i * (l[i] + 1) ≤ PB i * m[i] := Int.mul_le_mul_of_nonneg_left (by omega) (by have := PB_pos i; omega)
  rw [Int.mul_add, Int.mul_one] at a3
  rw [Int.mul_add, Int.mul_add]
  omega
/-- One step of a short division. -/
theorem short_step {x r d : Int} (hd : 0 < d) (hr0 : 0 ≤ r) (hr : r < d) (hx0 : 0 ≤ x) (hx : x < BB) : 0 ≤ (r * BB + x) / d ∧ (r * BB + x) / d < BB ∧ 0 ≤ (r * BB + x) % d ∧ (r * BB + x) % d < d := by
  have h0 : 0 ≤ r * BB := Int.mul_nonneg hr0 (by decide)
  refine ⟨Int.ediv_nonneg (by omega) (by omega), Int.ediv_lt_of_lt_mul hd ?_, Int.emod_nonneg _ (by omega), Int.emod_lt_of_pos _ hd⟩
  have : (r + 1) * BB ≤ d * BB := Int.mul_le_mul_of_nonneg_right (by omega) (by decide)
  rw [Int.add_mul, Int.one_mul] at this
  rw [Int.mul_comm BB d]
  omega
theorem dl_div (a b : Nat) : dl (a / b) ≤ dl a := dl_mono (Nat.div_le_self a b)
theorem dl_mod (a b : Nat) : dl (a % b) ≤ dl a := dl_mono (Nat.mod_le a b)
end Go.Pv
/- Knuth's division: a divisor and the digits under it, as lists. -/
namespace Go.Pv
theorem dv_three {l : List Int} {k : Nat} (hl : l.length = k + 2) : dv l = (l[k + 1] * BB + l[k]) * PB k + dv (l.take k) := by
  rw [dv_split l k (by omega), List.drop_eq_getElem_cons (show k < l.length by omega), List.drop_eq_getElem_cons (show k + 1 < l.length by omega), List.drop_of_length_le (by omega), dv_cons, dv_cons, dv_nil]
  rw [Int.mul_zero, Int.add_zero, Int.mul_comm (PB k), Int.mul_comm BB]
  rw [Int.add_comm l[k]]
  omega
/-- The window: k + 3 digits; the divisor: k + 2 digits. -/
theorem kn_of {V W : List Int} {k : Nat} (hV : V.length = k + 2) (hW : W.length = k + 3) (okV : dOk V) (okW : dOk W) (htop : 536870912 ≤ V[k + 1]) (hlt : dv W < BB * dv V) :
    Kn (W[k + 2] * BB + W[k + 1]) V[k + 1] V[k] W[k] (PB k) (dv (V.take k)) (dv (W.take k)) (dv V) (dv W) := by
  have a1 := dOk_get okV (i := k + 1) (by omega)
  have a2 := dOk_get okV (i := k) (by omega)
  have a3 := dOk_get okW (i := k) (by omega)
  have a4 := dOk_get okW (i := k + 1) (by omega)
  have a5 := dOk_get okW (i := k + 2) (by omega)
  have b1 := dv_lt (dOk_take okV k)
  have b2 := dv_lt (dOk_take okW k)
  rw [List.length_take, Nat.min_eq_left (by omega)] at b1 b2
  refine ⟨htop, a1.2, a2.1, a2.2, a3.1, a3.2, PB_pos k, dv_nonneg (dOk_take okV k), b1, dv_nonneg (dOk_take okW k), b2, dv_three hV, ?_, ?_, hlt⟩
  · rw [dv_split W (k + 1) (by omega), List.drop_eq_getElem_cons (show k + 1 < W.length by omega), List.drop_eq_getElem_cons (show k + 1 + 1 < W.length by omega), List.drop_of_length_le (by omega), dv_cons, dv_cons, dv_nil,
      dv_take_succ (show k < W.length by omega), PB_succ]
    rw [Int.mul_zero, Int.add_zero]
    have e1 : BB * PB k * (W[k + 1] + BB * W[k + 1 + 1]) = (W[k + 2] * BB + W[k + 1]) * BB * PB k := by
      rw [Int.mul_comm BB (W[k + 1 + 1]), Int.add_comm, Int.mul_comm (BB * PB k), Int.mul_assoc]
    rw [e1, Int.add_mul _ W[k], Int.mul_comm (PB k) W[k]]
    omega
  · have : 0 ≤ W[k + 2] * BB := Int.mul_nonneg a5.1 (by decide)
    omega
/-- What is left of the window when the divisor is taken off g times. -/
theorem kn_sub {V D : List Int} {g top : Int} {k : Nat} {f : Nat → Int} (hf : ∀ j, f j = dAt D j - g * dAt V j) (hD : D.length = k) (hV : V.length = k) :
    dv (carD f k).1 + PB k * ((carD f k).2 + top) = dv D + PB k * top - g * dv V := by
  have hf : f = fun j => dAt D j - g * dAt V j := funext hf
  have h1 := carD_sum f k
  have h2 : sumD f k = dv D - g * dv V := by
    rw [hf, sumD_sub, sumD_full (by omega), show (fun i => g * dAt V i) = (fun i => dAt V i * g) by funext i; exact Int.mul_comm .., sumD_mul, sumD_full (by omega), Int.mul_comm]
  rw [Int.mul_add]
  omega
theorem kn_top {V D : List Int} {g top : Int} {k : Nat} {f : Nat → Int} (hf : ∀ j, f j = dAt D j - g * dAt V j) (hD : D.length = k) (hV : V.length = k) (okV : dOk V) (h1 : -dv V ≤ dv D + PB k * top - g * dv V) (h2 : dv D + PB k * top - g * dv V < dv V) :
    ((carD f k).2 + top = 0 ∧ dv (carD f k).1 = dv D + PB k * top - g * dv V) ∨ ((carD f k).2 + top = -1 ∧ dv (carD f k).1 = dv D + PB k * top - g * dv V + PB k ∧ dv D + PB k * top - g * dv V < 0) := by
  have e := kn_sub (g := g) (top := top) hf hD hV
  have ok := carD_ok f k
  have b1 := dv_nonneg ok
  have b2 := dv_lt ok
  rw [carD_len] at b2
  have b3 := dv_lt okV
  rw [hV] at b3
  have hp := PB_pos k
  generalize (carD f k).2 + top = o at *
  have c1 : o < 1 := by
    apply Int.not_le.1
    intro h
    have := Int.mul_le_mul_of_nonneg_left h (show 0 ≤ PB k by omega)
    omega
  have c2 : -2 < o := by
    apply Int.not_le.1
    intro h
    have := Int.mul_le_mul_of_nonneg_left h (show 0 ≤ PB k by omega)
    omega
  by_cases ho : o = 0
  · subst ho
    rw [Int.mul_zero, Int.add_zero] at e
    exact .inl ⟨rfl, e⟩
  · have ho : o = -1 := by omega
    subst ho
    refine .inr ⟨rfl, by omega, by omega⟩
/-- One divisor is given back. -/
theorem kn_back {V D : List Int} {R : Int} {k : Nat} {f : Nat → Int} (hf : ∀ j, f j = dAt D j + dAt V j) (hD : D.length = k) (hV : V.length = k) (h1 : dv D = R + PB k) (h2 : -dv V ≤ R) (h3 : R < 0) (okV : dOk V) :
    (carD f k).2 = 1 ∧ dv (carD f k).1 = R + dv V := by
  have hf : f = fun j => dAt D j + dAt V j := funext hf
  have e := carD_sum f k
  have e2 : sumD f k = dv D + dv V := by
    rw [hf, sumD_add, sumD_full (by omega), sumD_full (by omega)]
  have ok := carD_ok f k
  have b1 := dv_nonneg ok
  have b2 := dv_lt ok
  rw [carD_len] at b2
  have b3 := dv_lt okV
  rw [hV] at b3
  have hp := PB_pos k
  generalize (carD f k).2 = o at *
  have c1 : o < 2 := by
    apply Int.not_le.1
    intro h
    have := Int.mul_le_mul_of_nonneg_left h (show 0 ≤ PB k by omega)
    omega
  have c2 : 0 < o := by
    apply Int.not_le.1
    intro h
    have := Int.mul_le_mul_of_nonneg_left h (show 0 ≤ PB k by omega)
    omega
  have ho : o = 1 := by omega
  subst ho
  exact ⟨rfl, by omega⟩
end Go.Pv
