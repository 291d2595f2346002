/- Samples, counted: plain facts. -/
import Derived.Test.YtgjgcflgjpigpaaLNt
import Derived.Test.YtgjgcflgjpigpaaLVf
namespace Go.Pv
end Go.Pv
/- Choices of k elements and their sums; the greatest such sum: plain facts. -/
namespace Go.Pv
/-- Some k elements of a list have this sum. -/
def Ch : List Int → Nat → Int → Prop
  | [], k, v => k = 0 ∧ v = 0
  | x :: l, k, v => Ch l k v ∨ ∃ j, k = j + 1 ∧ Ch l j (v - x)
theorem Ch.len : ∀ {l : List Int} {k : Nat} {v : Int}, Ch l k v → k ≤ l.length
  | [], k, v, h => by have := h.1; simp; omega
  | x :: l, k, v, h => by
    rcases h with h | ⟨j, rfl, h⟩
    · have := Ch.len h; simp only [List.length_cons]; omega
    · have := Ch.len h; simp only [List.length_cons]; omega
theorem Ch.zero : ∀ (l : List Int), Ch l 0 0
  | [] => ⟨rfl, rfl⟩
  | _ :: l => .inl (Ch.zero l)
/-- Falling. -/
def Fall (l : List Int) : Prop := l.Pairwise fun a b => b ≤ a
theorem fall_take {x : Int} : ∀ {l : List Int} {k : Nat}, (∀ y ∈ l, y ≤ x) → k < l.length → (l.take (k + 1)).sum ≤ x + (l.take k).sum
  | l, k, h, hk => by
    rw [List.take_succ_eq_append_getElem hk, List.sum_append]
    have := h _ (List.getElem_mem hk)
    simp only [List.sum_cons, List.sum_nil]
    omega
theorem Ch.le : ∀ {l : List Int} {k : Nat} {v : Int}, Fall l → Ch l k v → v ≤ (l.take k).sum
  | [], k, v, _, h => by rw [h.2]; simp
  | x :: l, k, v, hf, h => by
    obtain ⟨h1, h2⟩ := List.pairwise_cons.1 hf
    rcases h with h | ⟨j, rfl, h⟩
    · have ih := Ch.le h2 h
      cases k with
      | zero => simpa using ih
      | succ k =>
        have hl := Ch.len h
        have := fall_take (k := k) h1 (by omega)
        rw [List.take_succ_cons, List.sum_cons]
        omega
    · have ih := Ch.le h2 h
      rw [List.take_succ_cons, List.sum_cons]
      omega
end Go.Pv
/- The greatest sums over all samples, tried one by one: plain facts. -/
namespace Go.Pv
/-- How many elements reach a gap. -/
structure Marg (s : List Int) (gap : Int) (w : Nat) : Prop where
  le : w ≤ s.length + 1
  iff : ∀ k, k ≤ s.length → (gap ≤ (s.take k).sum ↔ w ≤ k)
theorem Marg.none {s : List Int} {gap : Int} (h1 : ∀ j, j ≤ s.length → (s.take j).sum < gap) : Marg s gap (s.length + 1) :=
  ⟨Nat.le_refl _, fun k hk => ⟨fun h => by have := h1 k hk; omega, fun h => by omega⟩⟩
theorem Marg.uniq {s : List Int} {gap : Int} {v w : Nat} (h : Marg s gap v) (k : Marg s gap w) : v = w := by
  by_cases hv : v ≤ s.length
  · have h1 := (k.iff v hv).1 ((h.iff v hv).2 (Nat.le_refl _))
    have h2 := (h.iff w (by omega)).1 ((k.iff w (by omega)).2 (Nat.le_refl _))
    omega
  · by_cases hw : w ≤ s.length
    · have h1 := (h.iff w hw).1 ((k.iff w hw).2 (Nat.le_refl _))
      omega
    · have := h.le
      have := k.le
      omega
theorem Fall.uniq : ∀ {l m : List Int}, Fall l → Fall m → l.Perm m → l = m
  | [], m, _, _, h => by have := h.length_eq; cases m with | nil => rfl | cons => simp at this
  | x :: l, [], _, _, h => by have := h.length_eq; simp at this
  | x :: l, y :: m, h1, h2, h => by
    obtain ⟨a1, a2⟩ := List.pairwise_cons.1 h1
    obtain ⟨b1, b2⟩ := List.pairwise_cons.1 h2
    have e : x = y := by
      have hx : x ∈ y :: m := h.mem_iff.1 (by simp)
      have hy : y ∈ x :: l := h.mem_iff.2 (by simp)
      rcases List.mem_cons.1 hx with e | hx
      · exact e
      · rcases List.mem_cons.1 hy with e | hy
        · exact e.symm
        · have := a1 y hy
          have := b1 x hx
          omega
    subst e
    rw [Fall.uniq a2 b2 ((List.perm_cons x).1 h)]
end Go.Pv
/- Sums of the greatest: plain facts. -/
namespace Go.Pv
/-- A number moves to its place among falling ones. -/
def insF (x : Int) : List Int → List Int
  | [] => [x]
  | y :: l => if x ≤ y then y :: insF x l else x :: y :: l
theorem insF_perm (x : Int) : ∀ l : List Int, (insF x l).Perm (x :: l)
  | [] => .refl _
  | y :: l => by
    rw [insF]
    split
    · exact ((insF_perm x l).cons y).trans (.swap x y l)
    · exact .refl _
theorem insF_fall {x : Int} : ∀ {l : List Int}, Fall l → Fall (insF x l)
  | [], _ => by simp [insF, Fall]
  | y :: l, h => by
    obtain ⟨h1, h2⟩ := List.pairwise_cons.1 h
    rw [insF]
    split
    · refine List.pairwise_cons.2 ⟨fun z hz => ?_, insF_fall h2⟩
      rcases List.mem_cons.1 ((insF_perm x l).mem_iff.1 hz) with e | hz
      · omega
      · exact h1 z hz
    · refine List.pairwise_cons.2 ⟨fun z hz => ?_, h⟩
      rcases List.mem_cons.1 hz with e | hz
      · omega
      · have := h1 z hz; omega
theorem insF_take (x : Int) : ∀ (l : List Int) (k : Nat), (insF x (l.take k)).take k = (insF x l).take k
  | _, 0 => by simp
  | [], k + 1 => by simp
  | y :: l, k + 1 => by
    rw [List.take_succ_cons, insF, insF]
    split
    · rw [List.take_succ_cons, List.take_succ_cons, insF_take x l k]
    · rw [List.take_succ_cons, List.take_succ_cons]
      congr 1
      cases k with
      | zero => rfl
      | succ k => rw [List.take_succ_cons, List.take_succ_cons, List.take_take, Nat.min_eq_left (Nat.le_succ k)]
theorem insF_last {x : Int} {P Q : List Int} (hP : ∀ p ∈ P, x ≤ p) (hQ : ∀ q ∈ Q, q < x) : insF x (P ++ Q) = P ++ x :: Q := by
  induction P with
  | nil =>
    cases Q with
    | nil => rfl
    | cons q Q =>
      have := hQ q (by simp)
      rw [List.nil_append, insF, if_neg (by omega)]
      rfl
  | cons p P ih =>
    rw [List.cons_append, insF, if_pos (hP p (by simp)), ih fun q hq => hP q (by simp [hq])]
    rfl
/-- Falling, one number put in behind the other. -/
def fallS (l : List Int) : List Int := l.foldl (fun s x => insF x s) []
/-- The same, cut after each number. -/
def keptS (k : Nat) (l : List Int) : List Int := l.foldl (fun s x => (insF x s).take k) []
theorem fallS_snoc (l : List Int) (x : Int) : fallS (l ++ [x]) = insF x (fallS l) := by simp [fallS, List.foldl_append]
theorem keptS_snoc (k : Nat) (l : List Int) (x : Int) : keptS k (l ++ [x]) = (insF x (keptS k l)).take k := by simp [keptS, List.foldl_append]
theorem snoc_ind {p : List Int → Prop} (h0 : p []) (h1 : ∀ l x, p l → p (l ++ [x])) (l : List Int) : p l := by
  have : ∀ n (l : List Int), l.length = n → p l := by
    intro n
    induction n with
    | zero => intro l hl; rw [List.length_eq_zero_iff.1 hl]; exact h0
    | succ n ih =>
      intro l hl
      rcases List.eq_nil_or_concat l with e | ⟨m, x, e⟩
      · rw [e]; exact h0
      · rw [e, List.concat_eq_append]
        exact h1 _ _ (ih m (by rw [e] at hl; simpa using hl))
  exact this _ l rfl
theorem fallS_facts (l : List Int) : (fallS l).Perm l ∧ Fall (fallS l) := by
  refine snoc_ind (p := fun l => (fallS l).Perm l ∧ Fall (fallS l)) ⟨.refl _, List.Pairwise.nil⟩ (fun l x h => ?_) l
  rw [fallS_snoc]
  exact ⟨((insF_perm x _).trans ((List.perm_cons x).2 h.1)).trans (List.perm_append_singleton x l).symm, insF_fall h.2⟩
theorem keptS_eq (k : Nat) (l : List Int) : keptS k l = (fallS l).take k := by
  refine snoc_ind (p := fun l => keptS k l = (fallS l).take k) (by simp [keptS, fallS]) (fun l x h => ?_) l
  rw [keptS_snoc, fallS_snoc, h, insF_take]
/-- The sum of so many of the greatest. -/
def topSum (l : List Int) (k : Nat) : Int := ((fallS l).take k).sum
theorem fallS_mem {l : List Int} {x : Int} : x ∈ fallS l ↔ x ∈ l := (fallS_facts l).1.mem_iff
end Go.Pv
/- Lines of a standing, and points of a table by ranks. -/
namespace Go.Pv
structure Pl where
  entry : Int
  rank : Int
  by_ : Int
deriving DecidableEq, Inhabited
def Pl.at_ (p : List Pl) (i : Nat) : Pl := p.getD i default
/-- A line shares the rank of the one before. -/
def Pl.shared (p : List Pl) (i : Nat) : Prop := 0 < i ∧ (Pl.at_ p i).rank = (Pl.at_ p (i - 1)).rank
instance (p : List Pl) (i : Nat) : Decidable (Pl.shared p i) := by unfold Pl.shared; infer_instance
/-- A line stands rightly. -/
structure Pl.Fine (p : List Pl) (i : Nat) : Prop where
  entry : 0 ≤ (Pl.at_ p i).entry
  new : ∀ j, j < i → (Pl.at_ p j).entry ≠ (Pl.at_ p i).entry
  by_ : -1 ≤ (Pl.at_ p i).by_
  why : (Pl.at_ p i).by_ = -1 ↔ (i = 0 ∨ Pl.shared p i)
  less : Pl.shared p i → (Pl.at_ p (i - 1)).entry < (Pl.at_ p i).entry
  rank : ¬ Pl.shared p i → (Pl.at_ p i).rank = i + 1
def Pl.Right (p : List Pl) : Prop := ∀ i, i < p.length → Pl.Fine p i
theorem Pl.ranks {p : List Pl} (h : Pl.Right p) : ∀ i, i < p.length → 1 ≤ (Pl.at_ p i).rank ∧ (Pl.at_ p i).rank ≤ i + 1 := by
  intro i
  induction i with
  | zero =>
    intro hi
    have := (h 0 hi).rank (fun s => absurd s.1 (by omega))
    omega
  | succ i ih =>
    intro hi
    have h1 := ih (by omega)
    by_cases s : Pl.shared p (i + 1)
    · have := s.2
      rw [show i + 1 - 1 = i by omega] at this
      omega
    · have := (h (i + 1) hi).rank s
      omega
/-- The points of a rank. -/
def ptOf (t : List Int) (r : Int) : Int := if r ≤ t.length then t.getD (r - 1).toNat 0 else 0
theorem ptOf_late {t : List Int} {r : Int} (h : t.length < r) : ptOf t r = 0 := by
  unfold ptOf
  rw [if_neg (by omega)]
/-- A table falls: seen by neighbours. -/
theorem fall_iff {t : List Int} : Fall t ↔ ∀ i, i + 1 < t.length → t.getD (i + 1) 0 ≤ t.getD i 0 := by
  induction t with
  | nil => simp [Fall]
  | cons x t ih =>
    constructor
    · intro h i hi
      have a : i + 1 < (x :: t).length := hi
      have b : i < (x :: t).length := by omega
      simp only [List.getD_eq_getElem?_getD, List.getElem?_eq_getElem a, List.getElem?_eq_getElem b, Option.getD_some]
      exact List.pairwise_iff_getElem.1 h _ _ b a (by omega)
    · intro h
      have ht : Fall t := ih.2 fun i hi => by
        have := h (i + 1) (by simpa using hi)
        simpa using this
      refine List.pairwise_cons.2 ⟨fun y hy => ?_, ht⟩
      cases t with
      | nil => cases hy
      | cons z t =>
        have hz := h 0 (by simp)
        simp at hz
        rcases List.mem_cons.1 hy with rfl | hy
        · exact hz
        · have := (List.pairwise_cons.1 ht).1 y hy
          omega
end Go.Pv
/- A number on its way into a falling list; errors of points and totals. -/
namespace Go.Pv
/-- The number stands at m; what is behind it is less. -/
def InsQ (old : List Int) (x : Int) (m : Nat) (cur : List Int) : Prop := ∃ P Q, P.length = m ∧ old = P ++ Q ∧ cur = P ++ x :: Q ∧ ∀ q ∈ Q, q < x
theorem InsQ.start (old : List Int) (x : Int) : InsQ old x old.length (old ++ [x]) := ⟨old, [], rfl, by simp, rfl, fun q h => by cases h⟩
theorem InsQ.len {old cur : List Int} {x : Int} {m : Nat} (h : InsQ old x m cur) : cur.length = old.length + 1 ∧ m ≤ old.length := by
  obtain ⟨P, Q, h1, rfl, rfl, -⟩ := h
  simp; omega
theorem InsQ.final {old cur : List Int} {x : Int} (h : InsQ old x 0 cur) : cur = insF x old := by
  obtain ⟨P, Q, h1, h2, h3, h4⟩ := h
  have e : P = [] := List.length_eq_zero_iff.1 h1
  subst e
  have := insF_last (x := x) (P := []) (Q := Q) (fun p h => by cases h) h4
  rw [h2, h3, this]
theorem InsQ.step {old cur : List Int} {x : Int} {m : Nat} (h : InsQ old x (m + 1) cur) (hf : Fall old) :
    ∃ v, (∀ h : m < cur.length, cur[m] = v) ∧ (∀ h : m + 1 < cur.length, cur[m + 1] = x) ∧ (v < x → InsQ old x m ((cur.set m x).set (m + 1) v)) ∧ (x ≤ v → cur = insF x old) := by
  obtain ⟨P, Q, h1, h2, h3, h4⟩ := h
  rcases List.eq_nil_or_concat P with rfl | ⟨P', v, rfl⟩
  · simp at h1
  rw [List.concat_eq_append] at *
  have l1 : P'.length = m := by simp at h1; exact h1
  refine ⟨v, fun h => ?_, fun h => ?_, fun hv => ?_, fun hv => ?_⟩
  · subst h3; subst l1; simp
  · subst h3; subst l1; simp
  · refine ⟨P', v :: Q, l1, by rw [h2]; simp, ?_, fun q hq => ?_⟩
    · subst h3; subst l1
      simp
    · rcases List.mem_cons.1 hq with rfl | hq
      · exact hv
      · exact h4 q hq
  · rw [h3, h2, insF_last (fun p hp => ?_) h4]
    rcases List.mem_append.1 hp with hp | hp
    · have hP : Fall (P' ++ [v]) := (List.pairwise_append.1 (h2 ▸ hf : Fall ((P' ++ [v]) ++ Q))).1
      have := (List.pairwise_append.1 hP).2.2 p hp v (by simp)
      omega
    · simp at hp; subst hp; exact hv
theorem fallS_fall (l : List Int) : Fall (fallS l) := (fallS_facts l).2
theorem keptS_fall (k : Nat) (l : List Int) : Fall (keptS k l) := by rw [keptS_eq]; exact (fallS_fall l).sublist (List.take_sublist _ _)
theorem keptS_sum (k : Nat) (l : List Int) : (keptS k l).sum = topSum l k := by rw [keptS_eq]; rfl
theorem keptS_mem {k : Nat} {l : List Int} {x : Int} (h : x ∈ keptS k l) : x ∈ l := by
  rw [keptS_eq] at h
  exact fallS_mem.1 (List.mem_of_mem_take h)
theorem keptS_len (k : Nat) (l : List Int) : (keptS k l).length = min k l.length := by
  rw [keptS_eq, List.length_take, (fallS_facts l).1.length_eq]
/-- An amount of points. -/
def amt (n : Int) : Bool := decide (0 ≤ n) && decide (n ≤ 1099511627776)
theorem amt_iff {n : Int} : amt n = true ↔ 0 ≤ n ∧ n ≤ 1099511627776 := by simp [amt]
theorem sum_le {l : List Int} {c : Int} (h : ∀ x ∈ l, 0 ≤ x ∧ x ≤ c) : 0 ≤ l.sum ∧ l.sum ≤ l.length * c := by
  induction l with
  | nil => simp
  | cons x l ih =>
    have h1 := ih fun y hy => h y (List.mem_cons_of_mem _ hy)
    have h2 := h x List.mem_cons_self
    rw [List.sum_cons, List.length_cons, show ((l.length + 1 : Nat) : Int) * c = l.length * c + c by rw [Int.natCast_add, Int.add_mul]; simp]
    omega
def fallB : List Int → Bool
  | x :: y :: l => decide (y ≤ x) && fallB (y :: l)
  | _ => true
theorem fallB_iff : ∀ {l : List Int}, fallB l = true ↔ Fall l
  | [] => by simp [fallB, Fall]
  | [x] => by simp [fallB, Fall]
  | x :: y :: l => by
    have ih := fallB_iff (l := y :: l)
    simp only [fallB, Bool.and_eq_true, decide_eq_true_eq, ih]
    refine ⟨fun ⟨h1, h2⟩ => List.pairwise_cons.2 ⟨fun z hz => ?_, h2⟩, fun h => ⟨(List.pairwise_cons.1 h).1 y List.mem_cons_self, (List.pairwise_cons.1 h).2⟩⟩
    rcases List.mem_cons.1 hz with rfl | hz
    · exact h1
    · have := (List.pairwise_cons.1 h2).1 z hz
      omega
end Go.Pv
/- Records among scores: plain facts. -/
namespace Go.Pv
section
variable {α : Type} (sc : α → Rat)
/-- Those that are greater than all before; m: the greatest so far. -/
def recs : Option Rat → List α → List α
  | _, [] => []
  | none, x :: l => x :: recs (some (sc x)) l
  | some v, x :: l => if v < sc x then x :: recs (some (sc x)) l else recs (some v) l
/-- The greatest so far. -/
def topS : Option Rat → List α → Option Rat
  | m, [] => m
  | none, x :: l => topS (some (sc x)) l
  | some v, x :: l => if v < sc x then topS (some (sc x)) l else topS (some v) l
variable {sc}
theorem recs_append : ∀ (m : Option Rat) (A B : List α), recs sc m (A ++ B) = recs sc m A ++ recs sc (topS sc m A) B
  | m, [], B => by cases m <;> simp [recs, topS]
  | none, x :: A, B => by simp only [List.cons_append, recs, topS, recs_append]
  | some v, x :: A, B => by
    simp only [List.cons_append, recs, topS]
    split <;> simp only [recs_append, List.cons_append]
theorem topS_append : ∀ (m : Option Rat) (A B : List α), topS sc m (A ++ B) = topS sc (topS sc m A) B
  | m, [], B => by cases m <;> rfl
  | none, x :: A, B => by simp only [List.cons_append, topS, topS_append]
  | some v, x :: A, B => by
    simp only [List.cons_append, topS]
    split <;> simp only [topS_append]
theorem recs_sublist : ∀ (m : Option Rat) (l : List α), (recs sc m l).Sublist l
  | m, [] => by cases m <;> simp [recs]
  | none, x :: l => by simp only [recs]; exact (recs_sublist _ l).cons_cons x
  | some v, x :: l => by
    simp only [recs]
    split
    · exact (recs_sublist _ l).cons_cons x
    · exact (recs_sublist _ l).cons x
end
end Go.Pv
/- Records rise, in time. -/
namespace Go.Pv
section
variable {α : Type} {key : α → Int} {R : α → α → Prop}
/-- What is behind what in a sorted list. -/
def Behind (key : α → Int) (R : α → α → Prop) (a b : α) : Prop := key a < key b ∨ key a = key b ∧ R a b
variable {sc : α → Rat}
end
end Go.Pv
