/- Samples, counted: plain facts. -/
import Derived.Test.YtgjgcflgjpigpaaLNt
import Derived.Test.YtgjgcflgjpigpaaLVf
namespace Go.Pv
/-- How many bits are set. -/
def pop : Nat → Nat → Nat
  | 0, _ => 0
  | f + 1, n => n % 2 + pop f (n / 2)
theorem pop_le : ∀ f n, pop f n ≤ f
  | 0, _ => Nat.le_refl _
  | f + 1, n => by have := pop_le f (n / 2); rw [pop]; omega
end Go.Pv
/- Choices of k elements and their sums; the greatest such sum: plain facts. -/
namespace Go.Pv
/-- Some k elements of a list have this sum. -/
def Ch : List Int → Nat → Int → Prop
  | [], k, v => k = 0 ∧ v = 0
  | x :: l, k, v => Ch l k v ∨ ∃ j, k = j + 1 ∧ Ch l j (v - x)
theorem Ch.perm {l m : List Int} (h : l.Perm m) : ∀ k v, Ch l k v ↔ Ch m k v := by
  induction h with
  | nil => exact fun _ _ => Iff.rfl
  | cons x _ ih =>
    intro k v
    simp only [Ch, ih]
  | swap x y l =>
    intro k v
    simp only [Ch]
    constructor
    · rintro ((h | ⟨j, rfl, h⟩) | ⟨j, rfl, (h | ⟨i, rfl, h⟩)⟩)
      · exact .inl (.inl h)
      · exact .inr ⟨j, rfl, .inl h⟩
      · exact .inl (.inr ⟨j, rfl, h⟩)
      · exact .inr ⟨i + 1, rfl, .inr ⟨i, rfl, by rw [show v - x - y = v - y - x by omega]; exact h⟩⟩
    · rintro ((h | ⟨j, rfl, h⟩) | ⟨j, rfl, (h | ⟨i, rfl, h⟩)⟩)
      · exact .inl (.inl h)
      · exact .inr ⟨j, rfl, .inl h⟩
      · exact .inl (.inr ⟨j, rfl, h⟩)
      · exact .inr ⟨i + 1, rfl, .inr ⟨i, rfl, by rw [show v - y - x = v - x - y by omega]; exact h⟩⟩
  | trans _ _ ih1 ih2 => exact fun k v => (ih1 k v).trans (ih2 k v)
theorem Ch.len : ∀ {l : List Int} {k : Nat} {v : Int}, Ch l k v → k ≤ l.length
  | [], k, v, h => by have := h.1; simp; omega
  | x :: l, k, v, h => by
    rcases h with h | ⟨j, rfl, h⟩
    · have := Ch.len h; simp only [List.length_cons]; omega
    · have := Ch.len h; simp only [List.length_cons]; omega
theorem Ch.zero : ∀ (l : List Int), Ch l 0 0
  | [] => ⟨rfl, rfl⟩
  | _ :: l => .inl (Ch.zero l)
/-- Falling. -/
def Fall (l : List Int) : Prop := l.Pairwise fun a b => b ≤ a
theorem Ch.top : ∀ {l : List Int} {k : Nat}, k ≤ l.length → Ch l k (l.take k).sum
  | l, 0, _ => by simpa using Ch.zero l
  | [], k + 1, h => by simp at h
  | x :: l, k + 1, h => by
    refine .inr ⟨k, rfl, ?_⟩
    have := Ch.top (l := l) (k := k) (by simpa using h)
    rw [List.take_succ_cons, List.sum_cons, show x + (l.take k).sum - x = (l.take k).sum by omega]
    exact this
theorem fall_take {x : Int} : ∀ {l : List Int} {k : Nat}, (∀ y ∈ l, y ≤ x) → k < l.length → (l.take (k + 1)).sum ≤ x + (l.take k).sum
  | l, k, h, hk => by
    rw [List.take_succ_eq_append_getElem hk, List.sum_append]
    have := h _ (List.getElem_mem hk)
    simp only [List.sum_cons, List.sum_nil]
    omega
theorem Ch.le : ∀ {l : List Int} {k : Nat} {v : Int}, Fall l → Ch l k v → v ≤ (l.take k).sum
  | [], k, v, _, h => by rw [h.2]; simp
  | x :: l, k, v, hf, h => by
    obtain ⟨h1, h2⟩ := List.pairwise_cons.1 hf
    rcases h with h | ⟨j, rfl, h⟩
    · have ih := Ch.le h2 h
      cases k with
      | zero => simpa using ih
      | succ k =>
        have hl := Ch.len h
        have := fall_take (k := k) h1 (by omega)
        rw [List.take_succ_cons, List.sum_cons]
        omega
    · have ih := Ch.le h2 h
      rw [List.take_succ_cons, List.sum_cons]
      omega
/-- The sum of a sample. -/
def maskS : List Int → Nat → Int
  | [], _ => 0
  | x :: l, m => (if m % 2 = 1 then x else 0) + maskS l (m / 2)
theorem Ch.mask : ∀ (l : List Int) (m : Nat), Ch l (pop l.length m) (maskS l m)
  | [], m => ⟨rfl, rfl⟩
  | x :: l, m => by
    have ih := Ch.mask l (m / 2)
    rcases Nat.mod_two_eq_zero_or_one m with h | h
    · refine .inl ?_
      simp only [List.length_cons, pop, maskS, h]
      simpa using ih
    · refine .inr ⟨pop l.length (m / 2), ?_, ?_⟩
      · simp only [List.length_cons, pop, h]; omega
      · simp only [maskS, h, if_true]
        rw [show x + maskS l (m / 2) - x = maskS l (m / 2) by omega]
        exact ih
theorem Ch.ex : ∀ {l : List Int} {k : Nat} {v : Int}, Ch l k v → ∃ m, m < 2 ^ l.length ∧ pop l.length m = k ∧ maskS l m = v
  | [], k, v, h => ⟨0, by simp, h.1.symm, h.2.symm⟩
  | x :: l, k, v, h => by
    rcases h with h | ⟨j, rfl, h⟩
    · obtain ⟨m, h1, h2, h3⟩ := Ch.ex h
      refine ⟨2 * m, by rw [List.length_cons, Nat.pow_succ]; omega, ?_, ?_⟩
      · rw [List.length_cons, pop, show 2 * m % 2 = 0 by omega, show 2 * m / 2 = m by omega, h2]; omega
      · rw [maskS, show 2 * m % 2 = 0 by omega, show 2 * m / 2 = m by omega, h3]; simp
    · obtain ⟨m, h1, h2, h3⟩ := Ch.ex h
      refine ⟨2 * m + 1, by rw [List.length_cons, Nat.pow_succ]; omega, ?_, ?_⟩
      · rw [List.length_cons, pop, show (2 * m + 1) % 2 = 1 by omega, show (2 * m + 1) / 2 = m by omega, h2]; omega
      · rw [maskS, show (2 * m + 1) % 2 = 1 by omega, show (2 * m + 1) / 2 = m by omega, h3]; simp; omega
/-- The sum so far, element by element. -/
theorem maskS_get {l : List Int} {m j : Nat} (h : j < l.length) : maskS (l.take (j + 1)) m = maskS (l.take j) m + if m / 2 ^ j % 2 = 1 then l[j] else 0 := by
  induction l generalizing m j with
  | nil => simp at h
  | cons x l ih =>
    cases j with
    | zero => simp [maskS]
    | succ j =>
      have hj : j < l.length := by simpa using h
      have e : m / 2 / 2 ^ j = m / 2 ^ (j + 1) := by rw [Nat.div_div_eq_div_mul, Nat.pow_succ, Nat.mul_comm]
      simp only [List.take_succ_cons, maskS, ih hj, e, List.getElem_cons_succ]
      omega
/-- The greatest sum of k elements. -/
structure Best (l : List Int) (k : Nat) (v : Int) : Prop where
  ch : Ch l k v
  le : ∀ u, Ch l k u → u ≤ v
theorem Best.top {l s : List Int} {k : Nat} (hp : s.Perm l) (hs : Fall s) (hk : k ≤ l.length) : Best l k (s.take k).sum :=
  ⟨(Ch.perm hp _ _).1 (Ch.top (by rw [hp.length_eq]; exact hk)), fun u hu => Ch.le hs ((Ch.perm hp _ _).2 hu)⟩
end Go.Pv
/- The greatest sums over all samples, tried one by one: plain facts. -/
namespace Go.Pv
/-- The greatest sum of the samples below i that are asked for. -/
def bestAt (l : List Int) (p : Nat → Bool) : Nat → Int
  | 0 => 0
  | i + 1 => if p i = true then max (bestAt l p i) (maskS l i) else bestAt l p i
theorem bestAt_le {l : List Int} {p : Nat → Bool} {v : Int} (hv : 0 ≤ v) : ∀ i, (∀ m, m < i → p m = true → maskS l m ≤ v) → bestAt l p i ≤ v
  | 0, _ => hv
  | i + 1, h => by
    have ih := bestAt_le hv i fun m hm => h m (by omega)
    rw [bestAt]
    split
    · rename_i hp
      have := h i (by omega) hp
      omega
    · exact ih
theorem bestAt_ge {l : List Int} {p : Nat → Bool} : ∀ {i m : Nat}, m < i → p m = true → maskS l m ≤ bestAt l p i
  | i + 1, m, h, hp => by
    rw [bestAt]
    by_cases e : m = i
    · subst e
      rw [if_pos hp]
      omega
    · have ih := bestAt_ge (l := l) (p := p) (show m < i by omega) hp
      split
      · omega
      · exact ih
theorem take_sum_mono {s : List Int} (h : ∀ x ∈ s, 0 ≤ x) {j k : Nat} (hjk : j ≤ k) : (s.take j).sum ≤ (s.take k).sum := by
  induction s generalizing j k with
  | nil => simp
  | cons x s ih =>
    cases j with
    | zero =>
      cases k with
      | zero => simp
      | succ k =>
        have h1 := ih (fun y hy => h y (by simp [hy])) (Nat.zero_le k)
        have h2 := h x (by simp)
        simp only [List.take_zero, List.sum_nil, List.take_succ_cons, List.sum_cons] at h1 ⊢
        omega
    | succ j =>
      cases k with
      | zero => omega
      | succ k =>
        have h1 := ih (fun y hy => h y (by simp [hy])) (show j ≤ k by omega)
        simp only [List.take_succ_cons, List.sum_cons]
        omega
/-- The greatest sum of at most k elements. -/
theorem bestAt_most {l s : List Int} {k : Nat} (hp : s.Perm l) (hs : Fall s) (hl : ∀ x ∈ l, 0 ≤ x) : bestAt l (fun m => decide (pop l.length m ≤ k)) (2 ^ l.length) = (s.take k).sum := by
  have hl2 : ∀ x ∈ s, 0 ≤ x := fun x hx => hl x (hp.mem_iff.1 hx)
  refine Int.le_antisymm (bestAt_le (take_sum_mono hl2 (Nat.zero_le k)) _ fun m _ hm => ?_) ?_
  · have h1 := of_decide_eq_true hm
    have h2 := (Best.top hp hs (Ch.mask l m).len).le _ (Ch.mask l m)
    exact Int.le_trans h2 (take_sum_mono hl2 h1)
  · have e : (s.take k).sum = (s.take (min k l.length)).sum := by
      by_cases hk : k ≤ l.length
      · rw [Nat.min_eq_left hk]
      · have hn := hp.length_eq
        rw [Nat.min_eq_right (by omega), List.take_of_length_le (by omega), List.take_of_length_le (by omega)]
    rw [e]
    obtain ⟨m, h1, h2, h3⟩ := Ch.ex (Best.top hp hs (Nat.min_le_right k l.length)).ch
    rw [← h3]
    exact bestAt_ge h1 (by rw [h2, decide_eq_true_eq]; omega)
/-- How many elements reach a gap. -/
structure Marg (s : List Int) (gap : Int) (w : Nat) : Prop where
  le : w ≤ s.length + 1
  iff : ∀ k, k ≤ s.length → (gap ≤ (s.take k).sum ↔ w ≤ k)
theorem Marg.reach {s : List Int} {gap : Int} {w : Nat} (h : ∀ x ∈ s, 0 ≤ x) (hw : w ≤ s.length) (h1 : ∀ j, j < w → (s.take j).sum < gap) (h2 : gap ≤ (s.take w).sum) : Marg s gap w :=
  ⟨by omega, fun k _ => ⟨fun hk => by
    by_cases hh : w ≤ k
    · exact hh
    · have := h1 k (by omega); omega, fun hk => Int.le_trans h2 (take_sum_mono h hk)⟩⟩
theorem Marg.none {s : List Int} {gap : Int} (h1 : ∀ j, j ≤ s.length → (s.take j).sum < gap) : Marg s gap (s.length + 1) :=
  ⟨Nat.le_refl _, fun k hk => ⟨fun h => by have := h1 k hk; omega, fun h => by omega⟩⟩
theorem Marg.uniq {s : List Int} {gap : Int} {v w : Nat} (h : Marg s gap v) (k : Marg s gap w) : v = w := by
  by_cases hv : v ≤ s.length
  · have h1 := (k.iff v hv).1 ((h.iff v hv).2 (Nat.le_refl _))
    have h2 := (h.iff w (by omega)).1 ((k.iff w (by omega)).2 (Nat.le_refl _))
    omega
  · by_cases hw : w ≤ s.length
    · have h1 := (h.iff w hw).1 ((k.iff w hw).2 (Nat.le_refl _))
      omega
    · have := h.le
      have := k.le
      omega
theorem Marg.ex {s : List Int} (h : ∀ x ∈ s, 0 ≤ x) (gap : Int) : ∃ w, Marg s gap w := by
  have key : ∀ n, n ≤ s.length + 1 → (∃ w, Marg s gap w) ∨ ∀ j, j < n → (s.take j).sum < gap := by
    intro n
    induction n with
    | zero => exact fun _ => .inr fun j hj => absurd hj (Nat.not_lt_zero _)
    | succ n ih =>
      intro hn
      rcases ih (by omega) with h1 | h1
      · exact .inl h1
      · by_cases h2 : (s.take n).sum < gap
        · refine .inr fun j hj => ?_
          rcases Nat.lt_succ_iff_lt_or_eq.1 hj with h3 | h3
          · exact h1 j h3
          · rw [h3]; exact h2
        · exact .inl ⟨n, Marg.reach h (by omega) h1 (by omega)⟩
  rcases key (s.length + 1) (Nat.le_refl _) with h1 | h1
  · exact h1
  · exact ⟨_, Marg.none fun j hj => h1 j (by omega)⟩
theorem Fall.uniq : ∀ {l m : List Int}, Fall l → Fall m → l.Perm m → l = m
  | [], m, _, _, h => by have := h.length_eq; cases m with | nil => rfl | cons => simp at this
  | x :: l, [], _, _, h => by have := h.length_eq; simp at this
  | x :: l, y :: m, h1, h2, h => by
    obtain ⟨a1, a2⟩ := List.pairwise_cons.1 h1
    obtain ⟨b1, b2⟩ := List.pairwise_cons.1 h2
    have e : x = y := by
      have hx : x ∈ y :: m := h.mem_iff.1 (by simp)
      have hy : y ∈ x :: l := h.mem_iff.2 (by simp)
      rcases List.mem_cons.1 hx with e | hx
      · exact e
      · rcases List.mem_cons.1 hy with e | hy
        · exact e.symm
        · have := a1 y hy
          have := b1 x hx
          omega
    subst e
    rw [Fall.uniq a2 b2 ((List.perm_cons x).1 h)]
end Go.Pv
/- Sums of the greatest: plain facts. -/
namespace Go.Pv
/-- A number moves to its place among falling ones. -/
def insF (x : Int) : List Int → List Int
  | [] => [x]
  | y :: l => if x ≤ y then y :: insF x l else x :: y :: l
theorem insF_perm (x : Int) : ∀ l : List Int, (insF x l).Perm (x :: l)
  | [] => .refl _
  | y :: l => by
    rw [insF]
    split
    · exact ((insF_perm x l).cons y).trans (.swap x y l)
    · exact .refl _
theorem insF_fall {x : Int} : ∀ {l : List Int}, Fall l → Fall (insF x l)
  | [], _ => by simp [insF, Fall]
  | y :: l, h => by
    obtain ⟨h1, h2⟩ := List.pairwise_cons.1 h
    rw [insF]
    split
    · refine List.pairwise_cons.2 ⟨fun z hz => ?_, insF_fall h2⟩
      rcases List.mem_cons.1 ((insF_perm x l).mem_iff.1 hz) with e | hz
      · omega
      · exact h1 z hz
    · refine List.pairwise_cons.2 ⟨fun z hz => ?_, h⟩
      rcases List.mem_cons.1 hz with e | hz
      · omega
      · have := h1 z hz; omega
theorem insF_take (x : Int) : ∀ (l : List Int) (k : Nat), (insF x (l.take k)).take k = (insF x l).take k
  | _, 0 => by simp
  | [], k + 1 => by simp
  | y :: l, k + 1 => by
    rw [List.take_succ_cons, insF, insF]
    split
    · rw [List.take_succ_cons, List.take_succ_cons, insF_take x l k]
    · rw [List.take_succ_cons, List.take_succ_cons]
      congr 1
      cases k with
      | zero => rfl
      | succ k => rw [List.take_succ_cons, List.take_succ_cons, List.take_take, Nat.min_eq_left (Nat.le_succ k)]
theorem insF_last {x : Int} {P Q : List Int} (hP : ∀ p ∈ P, x ≤ p) (hQ : ∀ q ∈ Q, q < x) : insF x (P ++ Q) = P ++ x :: Q := by
  induction P with
  | nil =>
    cases Q with
    | nil => rfl
    | cons q Q =>
      have := hQ q (by simp)
      rw [List.nil_append, insF, if_neg (by omega)]
      rfl
  | cons p P ih =>
    rw [List.cons_append, insF, if_pos (hP p (by simp)), ih fun q hq => hP q (by simp [hq])]
    rfl
/-- Falling, one number put in behind the other. -/
def fallS (l : List Int) : List Int := l.foldl (fun s x => insF x s) []
/-- The same, cut after each number. -/
def keptS (k : Nat) (l : List Int) : List Int := l.foldl (fun s x => (insF x s).take k) []
theorem fallS_snoc (l : List Int) (x : Int) : fallS (l ++ [x]) = insF x (fallS l) := by simp [fallS, List.foldl_append]
theorem keptS_snoc (k : Nat) (l : List Int) (x : Int) : keptS k (l ++ [x]) = (insF x (keptS k l)).take k := by simp [keptS, List.foldl_append]
theorem snoc_ind {p : List Int → Prop} (h0 : p []) (h1 : ∀ l x, p l → p (l ++ [x])) (l : List Int) : p l := by
  have : ∀ n (l : List Int), l.length = n → p l := by
    intro n
    induction n with
    | zero => intro l hl; rw [List.length_eq_zero_iff.1 hl]; exact h0
    | succ n ih =>
      intro l hl
      rcases List.eq_nil_or_concat l with e | ⟨m, x, e⟩
      · rw [e]; exact h0
      · rw [e, List.concat_eq_append]
        exact h1 _ _ (ih m (by rw [e] at hl; simpa using hl))
  exact this _ l rfl
theorem fallS_facts (l : List Int) : (fallS l).Perm l ∧ Fall (fallS l) := by
  refine snoc_ind (p := fun l => (fallS l).Perm l ∧ Fall (fallS l)) ⟨.refl _, List.Pairwise.nil⟩ (fun l x h => ?_) l
  rw [fallS_snoc]
  exact ⟨((insF_perm x _).trans ((List.perm_cons x).2 h.1)).trans (List.perm_append_singleton x l).symm, insF_fall h.2⟩
theorem keptS_eq (k : Nat) (l : List Int) : keptS k l = (fallS l).take k := by
  refine snoc_ind (p := fun l => keptS k l = (fallS l).take k) (by simp [keptS, fallS]) (fun l x h => ?_) l
  rw [keptS_snoc, fallS_snoc, h, insF_take]
/-- The sum of so many of the greatest. -/
def topSum (l : List Int) (k : Nat) : Int := ((fallS l).take k).sum
theorem fallS_mem {l : List Int} {x : Int} : x ∈ fallS l ↔ x ∈ l := (fallS_facts l).1.mem_iff
/-- No choice of at most k has more, and one has as many. -/
theorem topSum_best {l : List Int} (h : ∀ x ∈ l, 0 ≤ x) (k : Nat) : bestAt l (fun m => decide (pop l.length m ≤ k)) (2 ^ l.length) = topSum l k :=
  bestAt_most (fallS_facts l).1 (fallS_facts l).2 h
end Go.Pv
/- Lines of a standing, and points of a table by ranks. -/
namespace Go.Pv
structure Pl where
  entry : Int
  rank : Int
  by_ : Int
deriving DecidableEq, Inhabited
def Pl.at_ (p : List Pl) (i : Nat) : Pl := p.getD i default
/-- A line shares the rank of the one before. -/
def Pl.shared (p : List Pl) (i : Nat) : Prop := 0 < i ∧ (Pl.at_ p i).rank = (Pl.at_ p (i - 1)).rank
instance (p : List Pl) (i : Nat) : Decidable (Pl.shared p i) := by unfold Pl.shared; infer_instance
/-- A line stands rightly. -/
structure Pl.Fine (p : List Pl) (i : Nat) : Prop where
  entry : 0 ≤ (Pl.at_ p i).entry
  new : ∀ j, j < i → (Pl.at_ p j).entry ≠ (Pl.at_ p i).entry
  by_ : -1 ≤ (Pl.at_ p i).by_
  why : (Pl.at_ p i).by_ = -1 ↔ (i = 0 ∨ Pl.shared p i)
  less : Pl.shared p i → (Pl.at_ p (i - 1)).entry < (Pl.at_ p i).entry
  rank : ¬ Pl.shared p i → (Pl.at_ p i).rank = i + 1
def Pl.Right (p : List Pl) : Prop := ∀ i, i < p.length → Pl.Fine p i
theorem Pl.ranks {p : List Pl} (h : Pl.Right p) : ∀ i, i < p.length → 1 ≤ (Pl.at_ p i).rank ∧ (Pl.at_ p i).rank ≤ i + 1 := by
  intro i
  induction i with
  | zero =>
    intro hi
    have := (h 0 hi).rank (fun s => absurd s.1 (by omega))
    omega
  | succ i ih =>
    intro hi
    have h1 := ih (by omega)
    by_cases s : Pl.shared p (i + 1)
    · have := s.2
      rw [show i + 1 - 1 = i by omega] at this
      omega
    · have := (h (i + 1) hi).rank s
      omega
/-- The points of a rank. -/
def ptOf (t : List Int) (r : Int) : Int := if r ≤ t.length then t.getD (r - 1).toNat 0 else 0
theorem ptOf_late {t : List Int} {r : Int} (h : t.length < r) : ptOf t r = 0 := by
  unfold ptOf
  rw [if_neg (by omega)]
end Go.Pv
/- A number on its way into a falling list; errors of points and totals. -/
namespace Go.Pv
/-- The number stands at m; what is behind it is less. -/
def InsQ (old : List Int) (x : Int) (m : Nat) (cur : List Int) : Prop := ∃ P Q, P.length = m ∧ old = P ++ Q ∧ cur = P ++ x :: Q ∧ ∀ q ∈ Q, q < x
theorem InsQ.start (old : List Int) (x : Int) : InsQ old x old.length (old ++ [x]) := ⟨old, [], rfl, by simp, rfl, fun q h => by cases h⟩
theorem InsQ.len {old cur : List Int} {x : Int} {m : Nat} (h : InsQ old x m cur) : cur.length = old.length + 1 ∧ m ≤ old.length := by
  obtain ⟨P, Q, h1, rfl, rfl, -⟩ := h
  simp; omega
theorem InsQ.final {old cur : List Int} {x : Int} (h : InsQ old x 0 cur) : cur = insF x old := by
  obtain ⟨P, Q, h1, h2, h3, h4⟩ := h
  have e : P = [] := List.length_eq_zero_iff.1 h1
  subst e
  have := insF_last (x := x) (P := []) (Q := Q) (fun p h => by cases h) h4
  rw [h2, h3, this]
theorem InsQ.step {old cur : List Int} {x : Int} {m : Nat} (h : InsQ old x (m + 1) cur) (hf : Fall old) :
    ∃ v, (∀ h : m < cur.length, cur[m] = v) ∧ (∀ h : m + 1 < cur.length, cur[m + 1] = x) ∧ (v < x → InsQ old x m ((cur.set m x).set (m + 1) v)) ∧ (x ≤ v → cur = insF x old) := by
  obtain ⟨P, Q, h1, h2, h3, h4⟩ := h
  rcases List.eq_nil_or_concat P with rfl | ⟨P', v, rfl⟩
  · simp at h1
  rw [List.concat_eq_append] at *
  have l1 : P'.length = m := by simp at h1; exact h1
  refine ⟨v, fun h => ?_, fun h => ?_, fun hv => ?_, fun hv => ?_⟩
  · subst h3; subst l1; simp
  · subst h3; subst l1; simp
  · refine ⟨P', v :: Q, l1, by rw [h2]; simp, ?_, fun q hq => ?_⟩
    · subst h3; subst l1
      simp
    · rcases List.mem_cons.1 hq with rfl | hq
      · exact hv
      · exact h4 q hq
  · rw [h3, h2, insF_last (fun p hp => ?_) h4]
    rcases List.mem_append.1 hp with hp | hp
    · have hP : Fall (P' ++ [v]) := (List.pairwise_append.1 (h2 ▸ hf : Fall ((P' ++ [v]) ++ Q))).1
      have := (List.pairwise_append.1 hP).2.2 p hp v (by simp)
      omega
    · simp at hp; subst hp; exact hv
theorem fallS_fall (l : List Int) : Fall (fallS l) := (fallS_facts l).2
theorem keptS_fall (k : Nat) (l : List Int) : Fall (keptS k l) := by rw [keptS_eq]; exact (fallS_fall l).sublist (List.take_sublist _ _)
theorem keptS_sum (k : Nat) (l : List Int) : (keptS k l).sum = topSum l k := by rw [keptS_eq]; rfl
theorem keptS_mem {k : Nat} {l : List Int} {x : Int} (h : x ∈ keptS k l) : x ∈ l := by
  rw [keptS_eq] at h
  exact fallS_mem.1 (List.mem_of_mem_take h)
theorem keptS_len (k : Nat) (l : List Int) : (keptS k l).length = min k l.length := by
  rw [keptS_eq, List.length_take, (fallS_facts l).1.length_eq]
/-- An amount of points. -/
def amt (n : Int) : Bool := decide (0 ≤ n) && decide (n ≤ 1099511627776)
theorem amt_iff {n : Int} : amt n = true ↔ 0 ≤ n ∧ n ≤ 1099511627776 := by simp [amt]
theorem sum_le {l : List Int} {c : Int} (h : ∀ x ∈ l, 0 ≤ x ∧ x ≤ c) : 0 ≤ l.sum ∧ l.sum ≤ l.length * c := by
  induction l with
  | nil => simp
  | cons x l ih =>
    have h1 := ih fun y hy => h y (List.mem_cons_of_mem _ hy)
    have h2 := h x List.mem_cons_self
    rw [List.sum_cons, List.length_cons, show ((l.length + 1 : Nat) : Int) * c = l.length * c + c by rw [Int.natCast_add, Int.add_mul]; simp]
    omega
def fallB : List Int → Bool
  | x :: y :: l => decide (y ≤ x) && fallB (y :: l)
  | _ => true
theorem fallB_iff : ∀ {l : List Int}, fallB l = true ↔ Fall l
  | [] => by simp [fallB, Fall]
  | [x] => by simp [fallB, Fall]
  | x :: y :: l => by
    have ih := fallB_iff (l := y :: l)
    simp only [fallB, Bool.and_eq_true, decide_eq_true_eq, ih]
    refine ⟨fun ⟨h1, h2⟩ => List.pairwise_cons.2 ⟨fun z hz => ?_, h2⟩, fun h => ⟨(List.pairwise_cons.1 h).1 y List.mem_cons_self, (List.pairwise_cons.1 h).2⟩⟩
    rcases List.mem_cons.1 hz with rfl | hz
    · exact h1
    · have := (List.pairwise_cons.1 h2).1 z hz
      omega
end Go.Pv
/- Records among scores: plain facts. -/
namespace Go.Pv
section
variable {α : Type} (sc : α → Rat)
/-- Those that are greater than all before; m: the greatest so far. -/
def recs : Option Rat → List α → List α
  | _, [] => []
  | none, x :: l => x :: recs (some (sc x)) l
  | some v, x :: l => if v < sc x then x :: recs (some (sc x)) l else recs (some v) l
/-- The greatest so far. -/
def topS : Option Rat → List α → Option Rat
  | m, [] => m
  | none, x :: l => topS (some (sc x)) l
  | some v, x :: l => if v < sc x then topS (some (sc x)) l else topS (some v) l
variable {sc}
theorem recs_append : ∀ (m : Option Rat) (A B : List α), recs sc m (A ++ B) = recs sc m A ++ recs sc (topS sc m A) B
  | m, [], B => by cases m <;> simp [recs, topS]
  | none, x :: A, B => by simp only [List.cons_append, recs, topS, recs_append]
  | some v, x :: A, B => by
    simp only [List.cons_append, recs, topS]
    split <;> simp only [recs_append, List.cons_append]
theorem topS_append : ∀ (m : Option Rat) (A B : List α), topS sc m (A ++ B) = topS sc (topS sc m A) B
  | m, [], B => by cases m <;> rfl
  | none, x :: A, B => by simp only [List.cons_append, topS, topS_append]
  | some v, x :: A, B => by
    simp only [List.cons_append, topS]
    split <;> simp only [topS_append]
theorem recs_sublist : ∀ (m : Option Rat) (l : List α), (recs sc m l).Sublist l
  | m, [] => by cases m <;> simp [recs]
  | none, x :: l => by simp only [recs]; exact (recs_sublist _ l).cons_cons x
  | some v, x :: l => by
    simp only [recs]
    split
    · exact (recs_sublist _ l).cons_cons x
    · exact (recs_sublist _ l).cons x
end
end Go.Pv
/- Records rise, in time. -/
namespace Go.Pv
section
variable {α : Type} {key : α → Int} {R : α → α → Prop}
/-- What is behind what in a sorted list. -/
def Behind (key : α → Int) (R : α → α → Prop) (a b : α) : Prop := key a < key b ∨ key a = key b ∧ R a b
variable {sc : α → Rat}
end
end Go.Pv
