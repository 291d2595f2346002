/- RecordSlots: the plain law. -/
import Derived.Test.YtahdhdgglbcagaaS49N
import Derived.Test.YtahdhdgglbcagaaS49P
namespace Go.Proofs.Ytahdhdgglbcagaa
open Go.Pv
set_option maxRecDepth 100000
theorem stands_more {l : List Event} {y : Event} {d t : Int} (hn : addN l y = 0) (w : Event) : stands (addL l y) w d t = (stands l w d t && !(sameSlot y w && counts y d t && later y w)) := by
  rw [Bool.eq_iff_iff]
  simp only [stands, Bool.and_eq_true, List.all_eq_true, mem_addL hn]
  constructor
  · rintro ⟨h1, h2⟩
    exact ⟨⟨h1, fun v hv => h2 v (.inr hv)⟩, h2 y (.inl rfl)⟩
  · rintro ⟨⟨h1, h2⟩, h3⟩
    refine ⟨h1, fun v hv => ?_⟩
    rcases hv with rfl | hv
    · exact h3
    · exact h2 v hv
theorem slots_facts {l : List Event} {y : Event} {d t : Int} (hl : l.length ≤ 60) (hn : addN l y = 0) (hs : standN l d t = 0) :
    standN (addL l y) d t = 0 ∧
    (standL l d t).filter (fun w => !sameSlot w y) = (standL (addL l y) d t).filter (fun w => !sameSlot w y) ∧
    (∀ w ∈ standL (addL l y) d t, sameSlot w y = true → (decide (w = y) == (((standL l d t).any fun v => sameSlot v y && later v y) || !counts y d t)) = false) ∧
    (counts y d t = true → ((standL (addL l y) d t).filter fun w => sameSlot w y).length = 1) ∧
    (counts y d t = false → ((standL (addL l y) d t).filter fun w => sameSlot w y).length = ((standL l d t).filter fun w => sameSlot w y).length) := by
  obtain ⟨g1, g2, g3, g4⟩ := order_facts hl hn
  obtain ⟨hc, ht⟩ := standN_zero.1 hs
  have hm : standN (addL l y) d t = 0 := standN_zero.2 ⟨g3, ht⟩
  have hX : standL l d t = l.filter fun x => stands l x d t := by simp [standL, hs]
  have hZ : standL (addL l y) d t = (addL l y).filter fun x => stands (addL l y) x d t := by simp [standL, hm]
  have hyy : sameSlot y y = true := by simp [sameSlot]
  have off : ∀ p : Event → Bool, p y = false → (addL l y).filter p = l.filter p := fun p hp => by
    conv => rhs; rw [← g1, List.filter_filter]
    refine List.filter_congr fun x _ => ?_
    by_cases hx : x = y
    · subst hx; simp [hp]
    · simp [hx]
  refine ⟨hm, ?_, fun w hw hwy => ?_, fun hcy => ?_, fun hcy => ?_⟩
  · rw [hX, hZ, List.filter_filter, List.filter_filter, off _ (by simp [hyy])]
    refine List.filter_congr fun x _ => ?_
    rw [stands_more hn]
    cases h : sameSlot x y with
    | true => simp
    | false =>
      have : sameSlot y x = false := by
        cases h2 : sameSlot y x with
        | false => rfl
        | true =>
          have : sameSlot x y = true := by simp only [sameSlot, Bool.and_eq_true, decide_eq_true_eq] at h2 ⊢; omega
          rw [h] at this; cases this
      simp [this]
  · rw [hZ] at hw
    obtain ⟨h1, h2⟩ := List.mem_filter.1 hw
    rw [stands_more hn] at h2
    simp only [Bool.and_eq_true, Bool.not_eq_true'] at h2
    obtain ⟨h2, h3⟩ := h2
    by_cases he : w = y
    · subst he
      have h4 := h2
      simp only [stands, Bool.and_eq_true, List.all_eq_true] at h4
      have hS : ((standL l d t).any fun v => sameSlot v w && later v w) = false := by
        rw [List.any_eq_false]
        intro v hv hv2
        rw [hX] at hv
        obtain ⟨v1, v2⟩ := List.mem_filter.1 hv
        simp only [stands, Bool.and_eq_true] at v2 hv2
        have := h4.2 v v1
        simp [v2.1, hv2.1, hv2.2] at this
      rw [hS, h4.1]; simp
    · have hwl : w ∈ l := by
        rcases (mem_addL hn).1 h1 with h | h
        · exact absurd h he
        · exact h
      have hwX : w ∈ standL l d t := by rw [hX]; exact List.mem_filter.2 ⟨hwl, h2⟩
      cases hcy : counts y d t with
      | false => simp [he]
      | true =>
        have hyw : sameSlot y w = true := by simp only [sameSlot, Bool.and_eq_true, decide_eq_true_eq] at hwy ⊢; omega
        rw [hyw, hcy] at h3
        simp only [Bool.true_and] at h3
        have h5 := later_f.1 h3
        have hno : w.no ≠ y.no := has_false.1 (addN_zero.1 hn).2.2.1 w hwl
        have h6 : later w y = true := by
          simp only [later, Bool.or_eq_true, Bool.and_eq_true, decide_eq_true_eq]
          omega
        have hS : ((standL l d t).any fun v => sameSlot v y && later v y) = true := List.any_eq_true.2 ⟨w, hwX, by simp [hwy, h6]⟩
        rw [hS]; simp [he]
  · obtain ⟨-, -, -, -, f5, f6⟩ := one_facts hm
    have hp : (standL (addL l y) d t).Pairwise fun a b => sameSlot a b = false := List.pairwise_iff_getElem.2 fun i j hi hj hij => f5 i j hj hij
    have hp2 := hp.sublist (List.filter_sublist (p := fun w => sameSlot w y))
    have hne := f6 y ((mem_addL hn).2 (.inl rfl)) hcy
    obtain ⟨z, hz, hz2⟩ := List.any_eq_true.1 hne
    simp only [Bool.and_eq_true] at hz2
    have hzy : sameSlot z y = true := by have h := hz2.1; simp only [sameSlot, Bool.and_eq_true, decide_eq_true_eq] at h ⊢; omega
    have hzm : z ∈ (standL (addL l y) d t).filter fun w => sameSlot w y := List.mem_filter.2 ⟨hz, hzy⟩
    have hall : ∀ w ∈ (standL (addL l y) d t).filter fun w => sameSlot w y, sameSlot w y = true := fun w hw => (List.mem_filter.1 hw).2
    generalize ((standL (addL l y) d t).filter fun w => sameSlot w y) = Z at *
    match Z, hzm, hp2, hall with
    | [_], _, _, _ => rfl
    | a :: b :: _, _, hp2, hall =>
      exfalso
      have h1 := hall a (by simp)
      have h2 := hall b (by simp)
      have h3 := (List.pairwise_cons.1 hp2).1 b (by simp)
      have h4 : sameSlot a b = true := by simp only [sameSlot, Bool.and_eq_true, decide_eq_true_eq] at h1 h2 ⊢; omega
      rw [h3] at h4
      cases h4
  · have hst : ∀ x, stands (addL l y) x d t = stands l x d t := fun x => by rw [stands_more hn, hcy]; simp
    have hsy : stands l y d t = false := by simp [stands, hcy]
    rw [hX, hZ, List.filter_filter, List.filter_filter, off _ (by simp [hst, hsy])]
    simp [hst]
end Go.Proofs.Ytahdhdgglbcagaa
