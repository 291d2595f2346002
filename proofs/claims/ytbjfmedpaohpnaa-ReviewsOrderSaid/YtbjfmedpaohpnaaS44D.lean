/- Searching, copying, inserting. -/
import Derived.Test.YtbjfmedpaohpnaaS44C
import Derived.Test.YtbjfmedpaohpnaaLOv
namespace Go.Proofs.Ytbjfmedpaohpnaa
open Go.Pv
set_option maxRecDepth 100000
def cmpI (a b : Int) : Int := if a < b then -1 else if b < a then 1 else 0
theorem isNaN_spec (a : Int) (st : Store) : Rets P F.cmp_isNaN__int [.int a] st (.bool false) := by
  refine H.cmp_isNaN__int.pure hmix rfl rfl ?_
  repeat' (first
    | (with_reducible refine Fresh.intro fun b hb => ?_) <;> (try simp -dsimp -implicitDefEqProofs [*] at hb)
    | (with_reducible refine Lit.imm ?_)
    | ((with_reducible refine Grow.intro ?_ fun b cap hb hc1 hc2 => ?_); omega) <;> (try simp -dsimp -implicitDefEqProofs [*] at hb)
    | (with_reducible refine RetView.nil2 ?_)
    | (with_reducible refine RetView.nil1 ?_)
    | (with_reducible refine RetView.loose2 (t := true) ?_)
    | (with_reducible refine RetView.loose1 (t := true) ?_)
    | (with_reducible refine RetView.fz 1 ?_ ?_)
    | (with_reducible refine RetView.same ?_)
    | (with_reducible refine DrawLate.intro [] ?_)
    | (with_reducible refine Cls_and ?_ ?_)
    | (with_reducible exact Cls.self _ _)
    | (with_reducible refine Cls_same ?_)
    | (with_reducible refine Cls_in ?_ ?_)
    | (with_reducible refine Cls_fresh ?_ ?_)
    | (with_reducible refine And.intro (fun h => ?_) (fun h => ?_)) <;> (try (exfalso; omega))
    | (with_reducible refine And.intro (fun h => ?_) ?_) <;> (try (exfalso; omega))
    | ((with_reducible refine and_keep ?_ fun hk => ?_); omega)
    | (simp -dsimp -implicitDefEqProofs [*]))
theorem cmp_spec (a b : Int) (st : Store) : Rets P F.cmp_Compare__int [.int a, .int b] st (.int (cmpI a b)) := by
  refine H.cmp_Compare__int.pure hmix rfl rfl ?_
  repeat' (first
    | (with_reducible refine Fresh.intro fun b hb => ?_) <;> (try simp -dsimp -implicitDefEqProofs [*] at hb)
    | (with_reducible refine Rets.xcall (isNaN_spec ..) ?_)
    | (with_reducible refine Rets.xsoft (isNaN_spec ..) ?_)
    | (with_reducible refine xlateCall_of (fun _ => isNaN_spec ..) ?_)
    | (with_reducible refine Lit.imm ?_)
    | ((with_reducible refine Grow.intro ?_ fun b cap hb hc1 hc2 => ?_); omega) <;> (try simp -dsimp -implicitDefEqProofs [*] at hb)
    | (with_reducible refine RetView.nil2 ?_)
    | (with_reducible refine RetView.nil1 ?_)
    | (with_reducible refine RetView.loose2 (t := true) ?_)
    | (with_reducible refine RetView.loose1 (t := true) ?_)
    | (with_reducible refine RetView.fz 1 ?_ ?_)
    | (with_reducible refine RetView.same ?_)
    | (with_reducible refine DrawLate.intro [] ?_)
    | (with_reducible refine Cls_and ?_ ?_)
    | (with_reducible exact Cls.self _ _)
    | (with_reducible refine Cls_same ?_)
    | (with_reducible refine Cls_in ?_ ?_)
    | (with_reducible refine Cls_fresh ?_ ?_)
    | (with_reducible refine And.intro (fun h => ?_) (fun h => ?_)) <;> (try (exfalso; omega))
    | (with_reducible refine And.intro (fun h => ?_) ?_) <;> (try (exfalso; omega))
    | ((with_reducible refine and_keep ?_ fun hk => ?_); omega)
    | (simp -dsimp -implicitDefEqProofs [*]))
  all_goals (unfold cmpI; grind)
/-- Where a number is, or would be. -/
def pos (l : List Review) (n : Int) : Nat := l.findIdx (fun e => decide (n ≤ e.no))
def has (l : List Review) (n : Int) : Bool := l.any (fun e => e.no == n)
theorem sortedE {l : List Review} (hok : ok l) : ∀ a b, a < b → ∀ (h : b < l.length) (h' : a < l.length), l[a].no < l[b].no := fun a b hab h _ => (List.pairwise_iff_getElem.1 hok.2) a b (by omega) h hab
theorem search_fin {l : List Review} {n : Int} {i : Nat} (hok : ok l) (h2 : i ≤ l.length) (h3 : ∀ k, k < i → ∀ h : k < l.length, l[k].no < n) (h4 : ∀ k, i ≤ k → ∀ h : k < l.length, n ≤ l[k].no) : i = pos l n ∧ has l n = (if h : i < l.length then decide (cmpI l[i].no n = 0) else false) := by
  have sorted := sortedE hok
  have e : pos l n = i := by
    unfold pos
    rcases Nat.lt_or_ge i l.length with hil | hil
    · rw [List.findIdx_eq hil]
      refine ⟨by simpa using h4 i (Nat.le_refl _) hil, fun k hk => by simpa using h3 k hk (by omega)⟩
    · rw [List.findIdx_eq_length.2]
      · omega
      · intro x hx
        obtain ⟨k, hk, rfl⟩ := List.mem_iff_getElem.1 hx
        simpa using h3 k (by omega) hk
  refine ⟨e.symm, ?_⟩
  have key : has l n = true ↔ ∃ h : i < l.length, l[i].no = n := by
    simp only [has, List.any_eq_true, beq_iff_eq]
    constructor
    · rintro ⟨x, hx, hxn⟩
      obtain ⟨k, hk, rfl⟩ := List.mem_iff_getElem.1 hx
      have hki : ¬ k < i := fun h => by have := h3 k h hk; omega
      have hil : i < l.length := by omega
      refine ⟨hil, ?_⟩
      have h5 := h4 i (Nat.le_refl _) hil
      by_cases hki2 : k = i
      · subst hki2; exact hxn
      · have := sorted i k (by omega) hk hil; omega
    · rintro ⟨h, e⟩
      exact ⟨_, List.getElem_mem h, e⟩
  split
  · rename_i hil
    have : cmpI l[i].no n = 0 ↔ l[i].no = n := by unfold cmpI; split <;> (try split) <;> omega
    rw [Bool.eq_iff_iff, key]
    simp [this, hil]
  · rename_i hil
    rw [Bool.eq_iff_iff, key]
    simp [hil]
theorem number_spec (e : Review) (st : Store) : Rets P F.reviews_number [e.pv] st (.int e.no) := by
  refine H.reviews_number.pure hmix rfl rfl ?_
  repeat' (first
    | (with_reducible refine Fresh.intro fun b hb => ?_) <;> (try simp -dsimp -implicitDefEqProofs [*] at hb)
    | (with_reducible refine Lit.imm ?_)
    | ((with_reducible refine Grow.intro ?_ fun b cap hb hc1 hc2 => ?_); omega) <;> (try simp -dsimp -implicitDefEqProofs [*] at hb)
    | (with_reducible refine RetView.nil2 ?_)
    | (with_reducible refine RetView.nil1 ?_)
    | (with_reducible refine RetView.loose2 (t := true) ?_)
    | (with_reducible refine RetView.loose1 (t := true) ?_)
    | (with_reducible refine RetView.fz 1 ?_ ?_)
    | (with_reducible refine RetView.same ?_)
    | (with_reducible refine DrawLate.intro [] ?_)
    | (with_reducible refine Cls_and ?_ ?_)
    | (with_reducible exact Cls.self _ _)
    | (with_reducible refine Cls_same ?_)
    | (with_reducible refine Cls_in ?_ ?_)
    | (with_reducible refine Cls_fresh ?_ ?_)
    | (with_reducible refine And.intro (fun h => ?_) (fun h => ?_)) <;> (try (exfalso; omega))
    | (with_reducible refine And.intro (fun h => ?_) ?_) <;> (try (exfalso; omega))
    | ((with_reducible refine and_keep ?_ fun hk => ?_); omega)
    | (simp -dsimp -implicitDefEqProofs [*]))
abbrev numF : PV := .func (.func F.reviews_number) [] []
theorem place1_spec (e : Review) (n : Int) (b0 : Nat) (T : TypeId) (st : Store) (hs : sget st b0 = some (.arr T [numF])) : Rets P F.reviews_place__apiReview_int_1 [e.pv, .int n, .ptr b0 0] st (.int (cmpI e.no n)) := by
  refine H.reviews_place__apiReview_int_1.pure hmix rfl rfl ?_
  repeat' (first
    | (with_reducible refine Fresh.intro fun b hb => ?_) <;> (try simp -dsimp -implicitDefEqProofs [*] at hb)
    | (with_reducible refine Rets.xcall (number_spec ..) ?_)
    | (with_reducible refine Rets.xsoft (number_spec ..) ?_)
    | (with_reducible refine xlateCall_of (fun _ => number_spec ..) ?_)
    | (with_reducible refine Rets.xcall (cmp_spec ..) ?_)
    | (with_reducible refine Rets.xsoft (cmp_spec ..) ?_)
    | (with_reducible refine xlateCall_of (fun _ => cmp_spec ..) ?_)
    | (with_reducible refine Lit.imm ?_)
    | ((with_reducible refine Grow.intro ?_ fun b cap hb hc1 hc2 => ?_); omega) <;> (try simp -dsimp -implicitDefEqProofs [*] at hb)
    | (with_reducible refine RetView.nil2 ?_)
    | (with_reducible refine RetView.nil1 ?_)
    | (with_reducible refine RetView.loose2 (t := true) ?_)
    | (with_reducible refine RetView.loose1 (t := true) ?_)
    | (with_reducible refine RetView.fz 1 ?_ ?_)
    | (with_reducible refine RetView.same ?_)
    | (with_reducible refine DrawLate.intro [] ?_)
    | (with_reducible refine Cls_and ?_ ?_)
    | (with_reducible exact Cls.self _ _)
    | (with_reducible refine Cls_same ?_)
    | (with_reducible refine Cls_in ?_ ?_)
    | (with_reducible refine Cls_fresh ?_ ?_)
    | (with_reducible refine And.intro (fun h => ?_) (fun h => ?_)) <;> (try (exfalso; omega))
    | (with_reducible refine And.intro (fun h => ?_) ?_) <;> (try (exfalso; omega))
    | ((with_reducible refine and_keep ?_ fun hk => ?_); omega)
    | (simp -dsimp -implicitDefEqProofs [*]))
  have hne := snew_ne hb hs
  repeat' (first
    | (with_reducible refine Fresh.intro fun b hb => ?_) <;> (try simp -dsimp -implicitDefEqProofs [*] at hb)
    | (with_reducible refine Rets.xcall (number_spec ..) ?_)
    | (with_reducible refine Rets.xsoft (number_spec ..) ?_)
    | (with_reducible refine xlateCall_of (fun _ => number_spec ..) ?_)
    | (with_reducible refine Rets.xcall (cmp_spec ..) ?_)
    | (with_reducible refine Rets.xsoft (cmp_spec ..) ?_)
    | (with_reducible refine xlateCall_of (fun _ => cmp_spec ..) ?_)
    | (with_reducible refine Lit.imm ?_)
    | ((with_reducible refine Grow.intro ?_ fun b cap hb hc1 hc2 => ?_); omega) <;> (try simp -dsimp -implicitDefEqProofs [*] at hb)
    | (with_reducible refine RetView.nil2 ?_)
    | (with_reducible refine RetView.nil1 ?_)
    | (with_reducible refine RetView.loose2 (t := true) ?_)
    | (with_reducible refine RetView.loose1 (t := true) ?_)
    | (with_reducible refine RetView.fz 1 ?_ ?_)
    | (with_reducible refine RetView.same ?_)
    | (with_reducible refine DrawLate.intro [] ?_)
    | (with_reducible refine Cls_and ?_ ?_)
    | (with_reducible exact Cls.self _ _)
    | (with_reducible refine Cls_same ?_)
    | (with_reducible refine Cls_in ?_ ?_)
    | (with_reducible refine Cls_fresh ?_ ?_)
    | (with_reducible refine And.intro (fun h => ?_) (fun h => ?_)) <;> (try (exfalso; omega))
    | (with_reducible refine And.intro (fun h => ?_) ?_) <;> (try (exfalso; omega))
    | ((with_reducible refine and_keep ?_ fun hk => ?_); omega)
    | (simp -dsimp -implicitDefEqProofs [*]))
theorem search_spec (t : Bool) (l : List Review) (n : Int) (hok : ok l) (hl : l.length ≤ 1024) (b : Nat) (T : TypeId) (st : Store) (hb : sget st b = some (.arr T [numF])) : Rets P F.slices_BinarySearchFunc__LapiReview_apiReview_int [Review.lst t l, .int n, .func (.func F.reviews_place__apiReview_int_1) [] [.ptr b 0]] st (.tuple [.int (pos l n), .bool (has l n)]) := by
  refine H.slices_BinarySearchFunc__LapiReview_apiReview_int.pure hmix rfl rfl ?_
  repeat' (first
    | (with_reducible refine Fresh.intro fun b hb => ?_) <;> (try simp -dsimp -implicitDefEqProofs [*] at hb)
    | (with_reducible refine Lit.imm ?_)
    | ((with_reducible refine Grow.intro ?_ fun b cap hb hc1 hc2 => ?_); omega) <;> (try simp -dsimp -implicitDefEqProofs [*] at hb)
    | (with_reducible refine RetView.nil2 ?_)
    | (with_reducible refine RetView.nil1 ?_)
    | (with_reducible refine RetView.loose2 (t := true) ?_)
    | (with_reducible refine RetView.loose1 (t := true) ?_)
    | (with_reducible refine RetView.fz 1 ?_ ?_)
    | (with_reducible refine RetView.same ?_)
    | (with_reducible refine DrawLate.intro [] ?_)
    | (with_reducible refine Cls_and ?_ ?_)
    | (with_reducible exact Cls.self _ _)
    | (with_reducible refine Cls_same ?_)
    | (with_reducible refine Cls_in ?_ ?_)
    | (with_reducible refine Cls_fresh ?_ ?_)
    | (with_reducible refine And.intro (fun h => ?_) (fun h => ?_)) <;> (try (exfalso; omega))
    | (with_reducible refine And.intro (fun h => ?_) ?_) <;> (try (exfalso; omega))
    | ((with_reducible refine and_keep ?_ fun hk => ?_); omega)
    | (simp -dsimp -implicitDefEqProofs [*]))
  refine xloop_for (fun x => [(0, Review.lst t l), (1, .int n), (2, .func (.func F.reviews_place__apiReview_int_1) [] [.ptr b 0]), (8, .int l.length), (9, .int (x.1 : Nat)), (10, .int (x.2 : Nat))]) (fun _ => st)
    (fun x => x.1 ≤ x.2 ∧ x.2 ≤ l.length ∧ (∀ k, k < x.1 → ∀ h : k < l.length, l[k].no < n) ∧ (∀ k, x.2 ≤ k → ∀ h : k < l.length, n ≤ l[k].no)) (fun x => x.2 - x.1) (0, l.length) ?_ ?_ ?_ ?_
  · exact ⟨Nat.zero_le _, Nat.le_refl _, fun k h => by simp at h, fun k h1 h2 => by simp at h1; omega⟩
  · simp
  · simp
  rintro ⟨i, j⟩ ⟨h1, h2, h3, h4⟩
  simp only at h1 h2 h3 h4
  have hm1 : IntKind.i64.wrap ((i : Int) + j) = (i : Int) + j := wrap_in (by omega) (by omega)
  have hm2 : IntKind.u64.wrap ((i : Int) + j) = (i : Int) + j := u64_in (by omega) (by omega)
  obtain ⟨m, hm⟩ : ∃ m, m = (i + j) / 2 := ⟨_, rfl⟩
  have hm3 := mid_eq (i := i) (j := j) (by omega)
  rw [← hm] at hm3
  have hm4 := wrap_succ (n := m) (by omega)
  have him : i < j → i ≤ m ∧ m < j := by omega
  clear hm
  have sorted := sortedE hok
  repeat' (first
    | (with_reducible refine Fresh.intro fun b hb => ?_) <;> (try simp -dsimp -implicitDefEqProofs [*] at hb)
    | (with_reducible refine Rets.xcall (place1_spec _ _ b T _ hb) ?_)
    | (with_reducible refine Rets.xsoft (place1_spec _ _ b T _ hb) ?_)
    | (with_reducible refine xlateCall_of (fun _ => place1_spec _ _ b T _ hb) ?_)
    | (with_reducible refine Lit.imm ?_)
    | ((with_reducible refine Grow.intro ?_ fun b cap hb hc1 hc2 => ?_); omega) <;> (try simp -dsimp -implicitDefEqProofs [*] at hb)
    | (with_reducible refine RetView.nil2 ?_)
    | (with_reducible refine RetView.nil1 ?_)
    | (with_reducible refine RetView.loose2 (t := true) ?_)
    | (with_reducible refine RetView.loose1 (t := true) ?_)
    | (with_reducible refine RetView.fz 1 ?_ ?_)
    | (with_reducible refine RetView.same ?_)
    | (with_reducible refine DrawLate.intro [] ?_)
    | (with_reducible refine Cls_and ?_ ?_)
    | (with_reducible exact Cls.self _ _)
    | (with_reducible refine Cls_same ?_)
    | (with_reducible refine Cls_in ?_ ?_)
    | (with_reducible refine Cls_fresh ?_ ?_)
    | (with_reducible refine And.intro (fun h => ?_) (fun h => ?_)) <;> (try (exfalso; omega))
    | (with_reducible refine And.intro (fun h => ?_) ?_) <;> (try (exfalso; omega))
    | ((with_reducible refine and_keep ?_ fun hk => ?_); omega)
    | (simp -dsimp -implicitDefEqProofs [*]))
  · have h5 := him ‹_›
    have h6 : l[m].no < n := by
      have : cmpI l[m].no n < 0 := ‹_›
      unfold cmpI at this
      split at this <;> omega
    refine Next.intro (m + 1, j) ⟨by simp only; omega, h2, fun k hk h => ?_, h4⟩ (by simp only; omega) ?_ (by simp)
    · rcases Nat.lt_or_ge k m with hkm | hkm
      · have := sorted k m hkm (by omega) h; omega
      · have : k = m := by simp only at hk; omega
        subst this; exact h6
    · simp
  · have h5 := him ‹_›
    have h6 : n ≤ l[m].no := by
      have : 0 ≤ cmpI l[m].no n := ‹_›
      unfold cmpI at this
      split at this <;> omega
    refine Next.intro (i, m) ⟨by simp only; omega, by simp only; omega, h3, fun k hk h => ?_⟩ (by simp only; omega) ?_ (by simp)
    · rcases Nat.lt_or_ge m k with hkm | hkm
      · have := sorted m k hkm h (by omega); omega
      · have : k = m := by simp only at hk; omega
        subst this; exact h6
    · simp
  · have := search_fin (i := i) hok (by omega) h3 (fun k hk => h4 k (by omega))
    rw [dif_pos ‹_›] at this
    exact ⟨by rw [← this.1], this.2.symm⟩
  · have := search_fin (i := i) hok (by omega) h3 (fun k hk => h4 k (by omega))
    rw [dif_neg (by omega)] at this
    exact ⟨by rw [← this.1], this.2⟩
/-- A row of one's own that holds a list, with room to spare. -/
def ownE (l : List Review) (cap : Nat) : PObj := .arr T.apiReview (Review.row l ++ List.replicate ((cap - l.length) * 5) .any)
def CloneQ (l : List Review) (st : Store) (e : PEnd) (s : Store) : Prop :=
  l = [] ∧ e = .ret (.list true [] 0) ∧ s = st ∨ ∃ b cap, snew st b ∧ l.length ≤ cap ∧ cap ≤ 9223372036854775807 ∧ e = .ret (.own b 0 l.length cap) ∧ s = (b, ownE l cap) :: st
theorem clone_own (t : Bool) (l : List Review) (hl : l.length ≤ 1024) (st : Store) : PCalls P F.slices_Clone__LapiReview_apiReview [Review.lst t l] st (CloneQ l st) := by
  refine H.slices_Clone__LapiReview_apiReview.view hmix rfl rfl ?_
  repeat' (first
    | (with_reducible refine Fresh.intro fun b hb => ?_) <;> (try simp -dsimp -implicitDefEqProofs [*] at hb)
    | (with_reducible refine Lit.imm ?_)
    | ((with_reducible refine Grow.intro ?_ fun b cap hb hc1 hc2 => ?_); omega) <;> (try simp -dsimp -implicitDefEqProofs [*] at hb)
    | (with_reducible refine DrawLate.intro [] ?_)
    | (with_reducible refine Cls_and ?_ ?_)
    | (with_reducible exact Cls.self _ _)
    | (with_reducible refine Cls_same ?_)
    | (with_reducible refine Cls_in ?_ ?_)
    | (with_reducible refine Cls_fresh ?_ ?_)
    | (with_reducible refine And.intro (fun h => ?_) (fun h => ?_)) <;> (try (exfalso; omega))
    | (with_reducible refine And.intro (fun h => ?_) ?_) <;> (try (exfalso; omega))
    | ((with_reducible refine and_keep ?_ fun hk => ?_); omega)
    | (simp -dsimp -implicitDefEqProofs [*]))
  · exact .sees (.nil _) (.same (.inl ⟨rfl, rfl, rfl⟩))
  · exact .same (.inl ⟨rfl, rfl, rfl⟩)
  · exact .same (.inr ⟨_, _, hb, hc1, hc2, rfl, rfl⟩)
theorem overlaps_spec (x : Review) (b off n' cap : Nat) (row : List PV) (st : Store) (hg : sget st b = some (.arr T.apiReview row)) : Rets P F.slices_overlaps__apiReview [.list true x.enc 1, .own b off n' cap] st (.bool false) :=
  overlaps_own (tR := T.bool) (k := 5) (ag := true) Try.func39 (by kernel_rfl) (by kernel_rfl) (by kernel_rfl) (by kernel_rfl) Try.underlying22 (by kernel_rfl) (by omega) (by simp) hg
def ins (l : List Review) (i : Nat) (x : Review) : List Review := l.take i ++ x :: l.drop i
def InsQ (l : List Review) (i : Nat) (x : Review) (st : Store) (e : PEnd) (s : Store) : Prop := e = .ret (Review.lst false (ins l i x)) ∧ s = st
theorem ins_row (l : List Review) (i : Nat) (x : Review) : Review.row (ins l i x) = Review.row (l.take i) ++ x.enc ++ Review.row (l.drop i) := by
  simp [ins, Review.row_append]
theorem ins_len (l : List Review) (i : Nat) (x : Review) (hi : i ≤ l.length) : (ins l i x).length = l.length + 1 := by
  simp [ins]; omega
/-- The two ways in which the library lays a new element into a row. -/
theorem ins_cells (l : List Review) (i : Nat) (x : Review) (hi : i ≤ l.length) (Y : List PV) (hY : 5 + (l.length - i) * 5 ≤ Y.length) :
    (setCells (setCells (Review.row (l.take i) ++ Y) ((i + 1) * 5) (Review.row (l.drop i))) (i * 5) x.enc).take ((l.length + 1) * 5) = Review.row (ins l i x) ∧
    (setCells (setCells (Review.row (l.take i) ++ Y) (i * 5) x.enc) ((i + 1) * 5) (Review.row (l.drop i))).take ((l.length + 1) * 5) = Review.row (ins l i x) := by
  have h1 : (Review.row (l.take i)).length = i * 5 := by simp; omega
  have h2 : (Review.row (l.drop i)).length = (l.length - i) * 5 := by simp
  have h3 : x.enc.length = 5 := rfl
  have := setCells_two (Review.row (l.take i)) Y x.enc (Review.row (l.drop i)) (by omega)
  rw [h1, h2, h3, show i * 5 + 5 = (i + 1) * 5 by omega, show (i + 1) * 5 + (l.length - i) * 5 = (l.length + 1) * 5 by omega] at this
  rw [ins_row]
  exact this
theorem row_split (l : List Review) (i : Nat) (C : List PV) (h : i ≤ l.length) : (Review.row l ++ C).take (i * 5) = Review.row (l.take i) ∧ ((Review.row l ++ C).drop (i * 5)).take ((l.length - i) * 5) = Review.row (l.drop i) := by
  have h1 : (Review.row (l.take i)).length = i * 5 := by simp; omega
  have h2 : (Review.row (l.drop i)).length = (l.length - i) * 5 := by simp
  have e : Review.row l = Review.row (l.take i) ++ Review.row (l.drop i) := by rw [← Review.row_append, List.take_append_drop]
  rw [e, List.append_assoc]
  exact ⟨List.take_left' h1, by rw [List.drop_left' h1, List.take_left' h2]⟩
theorem insert_own (l : List Review) (hl : l.length ≤ 1024) (i : Nat) (hi : i ≤ l.length) (x : Review) (b cap : Nat) (hc1 : l.length ≤ cap) (hc2 : cap ≤ 9223372036854775807) (R : List PV) (hR1 : R.length = cap * 5) (hR2 : ∃ C, R = Review.row l ++ C)
    (st : Store) (hb : snew st b) :
    PCalls P F.slices_Insert__LapiReview_apiReview [.own b 0 l.length cap, .int i, .list true x.enc 1] ((b, .arr T.apiReview R) :: st) (InsQ l i x st) := by
  have hw : IntKind.i64.wrap ((l.length : Int) + 1) = (l.length : Int) + 1 := wrap_succ (by omega)
  have hw2 : IntKind.i64.wrap ((l.length : Int) + 1 - i) = (l.length : Int) + 1 - i := wrap_in (by omega) (by omega)
  have hw3 : IntKind.i64.wrap ((i : Int) + 1) = (i : Int) + 1 := wrap_succ (by omega)
  have ht1 : ((l.length : Int) + 1 - i).toNat = l.length + 1 - i := by omega
  have ht2 : ((i : Int) + 1).toNat = i + 1 := by omega
  have ht3 : ((l.length : Int) + 1).toNat = l.length + 1 := by omega
  have ht4 : i + (l.length + 1 - i) = l.length + 1 := by omega
  have hm1 : min (l.length + 1 - i) (l.length - i) = l.length - i := by omega
  have hm2 : min 1 (l.length + 1 - i) = 1 := by omega
  refine H.slices_Insert__LapiReview_apiReview.view hmix rfl rfl ?_
  rcases Nat.lt_or_ge i l.length with hil | hil
  · have hm3 : min (l.length - i) (l.length - i) = l.length - i := by omega
    rcases Nat.lt_or_ge cap (l.length + 1) with hcap | hcap
    · have hq1 : i * 5 + (l.length - i) * 5 ≤ cap * 5 := by omega
      repeat' (first
        | (with_reducible refine Fresh.intro fun b hb => ?_) <;> (try simp -dsimp -implicitDefEqProofs [*] at hb)
        | (with_reducible refine Lit.imm ?_)
        | ((with_reducible refine Grow.intro ?_ fun b cap hb hc1 hc2 => ?_); omega) <;> (try simp -dsimp -implicitDefEqProofs [*] at hb)
        | (with_reducible refine DrawLate.intro [] ?_)
        | (with_reducible refine Cls_and ?_ ?_)
        | (with_reducible exact Cls.self _ _)
        | (with_reducible refine Cls_same ?_)
        | (with_reducible refine Cls_in ?_ ?_)
        | (with_reducible refine Cls_fresh ?_ ?_)
        | (with_reducible refine And.intro (fun h => ?_) (fun h => ?_)) <;> (try (exfalso; omega))
        | (with_reducible refine And.intro (fun h => ?_) ?_) <;> (try (exfalso; omega))
        | ((with_reducible refine and_keep ?_ fun hk => ?_); omega)
        | (simp -dsimp -implicitDefEqProofs [*]))
      refine xappend_both (row := R) (by simp) (by simp [hR1]) (by omega) hc2 (by omega) (fun h => absurd h (by omega)) fun _ => ?_
      have hq4 : (i + 1) * 5 + (l.length - i) * 5 ≤ i * 5 + ((l.length + 1 - i) * 5 + (cap - (l.length + 1)) * 5) := by omega
      have hq5 : i * 5 + 5 ≤ i * 5 + ((l.length + 1 - i) * 5 + (cap - (l.length + 1)) * 5) := by omega
      have hq6 : min (i * 5) (cap * 5) = i * 5 := by omega
      repeat' (first
        | (with_reducible refine Fresh.intro fun b hb => ?_) <;> (try simp -dsimp -implicitDefEqProofs [*] at hb)
        | (with_reducible refine Lit.imm ?_)
        | ((with_reducible refine Grow.intro ?_ fun b cap hb hc1 hc2 => ?_); omega) <;> (try simp -dsimp -implicitDefEqProofs [*] at hb)
        | (with_reducible refine RetView.nil2 ?_)
        | (with_reducible refine RetView.nil1 ?_)
        | (with_reducible refine RetView.loose2 (t := true) ?_)
        | (with_reducible refine RetView.loose1 (t := true) ?_)
        | (with_reducible refine RetView.fz 5 ?_ ?_)
        | (with_reducible refine RetView.same ?_)
        | (with_reducible refine DrawLate.intro [] ?_)
        | (with_reducible refine Cls_and ?_ ?_)
        | (with_reducible exact Cls.self _ _)
        | (with_reducible refine Cls_same ?_)
        | (with_reducible refine Cls_in ?_ ?_)
        | (with_reducible refine Cls_fresh ?_ ?_)
        | (with_reducible refine And.intro (fun h => ?_) (fun h => ?_)) <;> (try (exfalso; omega))
        | (with_reducible refine And.intro (fun h => ?_) ?_) <;> (try (exfalso; omega))
        | ((with_reducible refine and_keep ?_ fun hk => ?_); omega)
        | (simp -dsimp -implicitDefEqProofs [*]))
      refine ⟨?_, rfl⟩
      obtain ⟨C, rfl⟩ := hR2
      have h1 := row_split l i C hi
      have h2 : List.take 5 x.enc = x.enc := rfl
      rw [List.take_take, Nat.min_self, h1.1, h1.2, h2, (ins_cells l i x hi _ (by simp; omega)).2]
      simp [ins_len, hi]
    · have hq1 : i * 5 + (l.length + 1 - i) * 5 ≤ cap * 5 := by omega
      have hq2 : (i + 1) * 5 + (l.length - i) * 5 ≤ cap * 5 := by omega
      have hq3 : i * 5 + 5 ≤ cap * 5 := by omega
      repeat' (first
        | (with_reducible refine Fresh.intro fun b hb => ?_) <;> (try simp -dsimp -implicitDefEqProofs [*] at hb)
        | (with_reducible refine Rets.xcall (overlaps_spec _ _ _ _ _ R _ (by simp)) ?_)
        | (with_reducible refine Rets.xsoft (overlaps_spec _ _ _ _ _ R _ (by simp)) ?_)
        | (with_reducible refine xlateCall_of (fun _ => overlaps_spec _ _ _ _ _ R _ (by simp)) ?_)
        | (with_reducible refine Lit.imm ?_)
        | ((with_reducible refine Grow.intro ?_ fun b cap hb hc1 hc2 => ?_); omega) <;> (try simp -dsimp -implicitDefEqProofs [*] at hb)
        | (with_reducible refine RetView.nil2 ?_)
        | (with_reducible refine RetView.nil1 ?_)
        | (with_reducible refine RetView.loose2 (t := true) ?_)
        | (with_reducible refine RetView.loose1 (t := true) ?_)
        | (with_reducible refine RetView.fz 5 ?_ ?_)
        | (with_reducible refine RetView.same ?_)
        | (with_reducible refine DrawLate.intro [] ?_)
        | (with_reducible refine Cls_and ?_ ?_)
        | (with_reducible exact Cls.self _ _)
        | (with_reducible refine Cls_same ?_)
        | (with_reducible refine Cls_in ?_ ?_)
        | (with_reducible refine Cls_fresh ?_ ?_)
        | (with_reducible refine And.intro (fun h => ?_) (fun h => ?_)) <;> (try (exfalso; omega))
        | (with_reducible refine And.intro (fun h => ?_) ?_) <;> (try (exfalso; omega))
        | ((with_reducible refine and_keep ?_ fun hk => ?_); omega)
        | (simp -dsimp -implicitDefEqProofs [*]))
      refine ⟨?_, rfl⟩
      obtain ⟨C, rfl⟩ := hR2
      have h1 := row_split l i C hi
      have h2 : List.take 5 x.enc = x.enc := rfl
      have e : Review.row l = Review.row (l.take i) ++ Review.row (l.drop i) := by rw [← Review.row_append, List.take_append_drop]
      have h3 : (l.length - i) * 5 ≤ (l.length + 1 - i) * 5 := by omega
      rw [List.take_take, Nat.min_eq_left h3, h1.2, h2, e, List.append_assoc]
      rw [e, List.append_assoc] at hR1
      have h4 : (Review.row (List.take i l)).length = i * 5 := by simp; omega
      rw [List.length_append, h4] at hR1
      rw [(ins_cells l i x hi _ (by omega)).1]
      simp [ins_len, hi]
  · obtain rfl : i = l.length := by omega
    have hfin : ∀ D, List.take ((l.length + 1) * 5) (List.take (l.length * 5) R ++ (x.enc ++ D)) = Review.row (ins l l.length x) := by
      intro D
      obtain ⟨C, rfl⟩ := hR2
      rw [(row_split l l.length C (Nat.le_refl _)).1, ins_row, List.take_length, List.drop_length, ← List.append_assoc, List.take_left' (by simp; omega)]
      simp
    repeat' (first
      | (with_reducible refine Fresh.intro fun b hb => ?_) <;> (try simp -dsimp -implicitDefEqProofs [*] at hb)
      | (with_reducible refine Lit.imm ?_)
      | ((with_reducible refine Grow.intro ?_ fun b cap hb hc1 hc2 => ?_); omega) <;> (try simp -dsimp -implicitDefEqProofs [*] at hb)
      | (with_reducible refine DrawLate.intro [] ?_)
      | (with_reducible refine Cls_and ?_ ?_)
      | (with_reducible exact Cls.self _ _)
      | (with_reducible refine Cls_same ?_)
      | (with_reducible refine Cls_in ?_ ?_)
      | (with_reducible refine Cls_fresh ?_ ?_)
      | (with_reducible refine And.intro (fun h => ?_) (fun h => ?_)) <;> (try (exfalso; omega))
      | (with_reducible refine And.intro (fun h => ?_) ?_) <;> (try (exfalso; omega))
      | ((with_reducible refine and_keep ?_ fun hk => ?_); omega)
      | (simp -dsimp -implicitDefEqProofs [*]))
    · refine xappend_own (row := R) (by simp) hR1 hc1 hc2 ?_
      repeat' (first
        | (with_reducible refine Fresh.intro fun b hb => ?_) <;> (try simp -dsimp -implicitDefEqProofs [*] at hb)
        | (with_reducible refine Lit.imm ?_)
        | ((with_reducible refine Grow.intro ?_ fun b cap hb hc1 hc2 => ?_); omega) <;> (try simp -dsimp -implicitDefEqProofs [*] at hb)
        | (with_reducible refine RetView.nil2 ?_)
        | (with_reducible refine RetView.nil1 ?_)
        | (with_reducible refine RetView.loose2 (t := true) ?_)
        | (with_reducible refine RetView.loose1 (t := true) ?_)
        | (with_reducible refine RetView.fz 5 ?_ ?_)
        | (with_reducible refine RetView.same ?_)
        | (with_reducible refine DrawLate.intro [] ?_)
        | (with_reducible refine Cls_and ?_ ?_)
        | (with_reducible exact Cls.self _ _)
        | (with_reducible refine Cls_same ?_)
        | (with_reducible refine Cls_in ?_ ?_)
        | (with_reducible refine Cls_fresh ?_ ?_)
        | (with_reducible refine And.intro (fun h => ?_) (fun h => ?_)) <;> (try (exfalso; omega))
        | (with_reducible refine And.intro (fun h => ?_) ?_) <;> (try (exfalso; omega))
        | ((with_reducible refine and_keep ?_ fun hk => ?_); omega)
        | (simp -dsimp -implicitDefEqProofs [*]))
      simp_all [InsQ, ins_len]
    · refine xappend_own (row := R) (by simp) hR1 hc1 hc2 ?_
      repeat' (first
        | (with_reducible refine Fresh.intro fun b hb => ?_) <;> (try simp -dsimp -implicitDefEqProofs [*] at hb)
        | (with_reducible refine Lit.imm ?_)
        | ((with_reducible refine Grow.intro ?_ fun b cap hb hc1 hc2 => ?_); omega) <;> (try simp -dsimp -implicitDefEqProofs [*] at hb)
        | (with_reducible refine RetView.nil2 ?_)
        | (with_reducible refine RetView.nil1 ?_)
        | (with_reducible refine RetView.loose2 (t := true) ?_)
        | (with_reducible refine RetView.loose1 (t := true) ?_)
        | (with_reducible refine RetView.fz 5 ?_ ?_)
        | (with_reducible refine RetView.same ?_)
        | (with_reducible refine DrawLate.intro [] ?_)
        | (with_reducible refine Cls_and ?_ ?_)
        | (with_reducible exact Cls.self _ _)
        | (with_reducible refine Cls_same ?_)
        | (with_reducible refine Cls_in ?_ ?_)
        | (with_reducible refine Cls_fresh ?_ ?_)
        | (with_reducible refine And.intro (fun h => ?_) (fun h => ?_)) <;> (try (exfalso; omega))
        | (with_reducible refine And.intro (fun h => ?_) ?_) <;> (try (exfalso; omega))
        | ((with_reducible refine and_keep ?_ fun hk => ?_); omega)
        | (simp -dsimp -implicitDefEqProofs [*]))
      simp_all [InsQ, ins_len]
end Go.Proofs.Ytbjfmedpaohpnaa
