/- RecordOne: the walk. -/
import Derived.Test.YtahdhdgglbcagaaS49L
namespace Go.Proofs.Ytahdhdgglbcagaa
open Go.Pv
set_option maxRecDepth 100000
set_option maxHeartbeats 4000000
theorem one_step {l X : List Event} {s : Event → Bool} {at' i : Nat} (hX : l.filter s = X) (h : (l.take at').filter s = X.take i) (hi : i < X.length) : ∃ ha : at' < l.length, (l[at'] ≠ X[i] → (l.take (at' + 1)).filter s = X.take i) ∧ (l[at'] = X[i] → (l.take (at' + 1)).filter s = X.take (i + 1)) := by
  have ha : at' < l.length := by
    by_cases ha : at' < l.length
    · exact ha
    · rw [List.take_of_length_le (by omega), hX] at h
      have := congrArg List.length h
      rw [List.length_take] at this
      omega
  refine ⟨ha, fun hne => ?_, fun he => ?_⟩
  · rw [filter_snoc _ _ _ ha, h]
    have : s l[at'] = false := by
      cases hs : s l[at'] with
      | false => rfl
      | true =>
        exfalso
        apply hne
        have h1 : X = X.take i ++ l[at'] :: (l.drop (at' + 1)).filter s := by
          rw [← h]
          conv => lhs; rw [← hX, ← List.take_append_drop at' l, List.drop_eq_getElem_cons ha, List.filter_append, List.filter_cons, if_pos hs]
        have h2 : X[i]? = some l[at'] := by
          rw [h1, List.getElem?_append_right (by rw [List.length_take]; omega), List.length_take, show i - min i X.length = 0 by omega]
          rfl
        rw [List.getElem?_eq_getElem hi] at h2
        exact (Option.some.inj h2).symm
    simp [this]
  · have hs : s l[at'] = true := by
      rw [he]
      have : X[i] ∈ l.filter s := by rw [hX]; exact List.getElem_mem hi
      exact (List.mem_filter.1 this).2
    rw [filter_snoc _ _ _ ha, h, if_pos hs, he, List.take_succ_eq_append_getElem hi]
theorem one_facts {l : List Event} {d t : Int} (hn : standN l d t = 0) :
    (l.filter fun x => stands l x d t) = standL l d t ∧ checkE l = 0 ∧ checkE (standL l d t) = 0 ∧ (∀ x ∈ standL l d t, counts x d t = true) ∧
    (∀ k i (hi : i < (standL l d t).length) (hk : k < i), sameSlot (standL l d t)[k] (standL l d t)[i] = false) ∧
    ∀ y ∈ l, counts y d t = true → ((standL l d t).any fun z => sameSlot y z && !later y z) = true := by
  obtain ⟨hc, ht⟩ := standN_zero.1 hn
  have hL : standL l d t = l.filter fun x => stands l x d t := by simp [standL, hn]
  have hok := (checkE_zero.1 hc).2
  have hs : ∀ x ∈ standL l d t, x ∈ l ∧ stands l x d t = true := fun x hx => by rw [hL] at hx; exact List.mem_filter.1 hx
  have hco : ∀ x ∈ standL l d t, counts x d t = true := fun x hx => by
    have := (hs x hx).2
    simp only [stands, Bool.and_eq_true] at this
    exact this.1
  have hc2 : checkE (standL l d t) = 0 := by rw [hL]; exact checkE_filter hc _
  refine ⟨hL.symm, hc, hc2, hco, fun k i hi hk => ?_, fun y hy hcy => ?_⟩
  · have m1 := hs _ (List.getElem_mem (show k < (standL l d t).length by omega))
    have m2 := hs _ (List.getElem_mem hi)
    have hno : (standL l d t)[k].no < (standL l d t)[i].no := List.pairwise_iff_getElem.1 (checkE_zero.1 hc2).2.2 k i (by omega) hi hk
    generalize (standL l d t)[k] = a at *
    generalize (standL l d t)[i] = b at *
    cases hab : sameSlot a b with
    | false => rfl
    | true =>
      exfalso
      have k1 := m1.2
      have k2 := m2.2
      simp only [stands, Bool.and_eq_true, List.all_eq_true, Bool.not_eq_true', Bool.and_eq_false_iff] at k1 k2
      have q1 := k1.2 b m2.1
      have q2 := k2.2 a m1.1
      have hba : sameSlot b a = true := by simp only [sameSlot, Bool.and_eq_true, decide_eq_true_eq] at hab ⊢; omega
      simp only [hab, hba, k1.1, k2.1, later_f] at q1 q2
      simp at q1 q2
      omega
  · obtain ⟨w, hw⟩ := exists_best d t (slotOf y) l ⟨y, hy, rfl, hcy⟩
    rw [List.any_eq_true]
    have hwl := hw.1
    have hw2 : Best d t l (slotOf w) w := by rw [hw.2.1]; exact hw
    have hst := (best_stands d t l hwl).1 hw2
    refine ⟨w, by rw [hL]; exact List.mem_filter.2 ⟨hwl, hst⟩, ?_⟩
    have h3 := hw.2.2.2 y hy rfl hcy
    have h4 : sameSlot y w = true := by rw [sameSlot_iff]; simpa using hw.2.1.symm
    simp [h3, h4]
theorem one_law (tt : Bool) (l : List Event) (d t : Int) (st : Store) : Rets P F.podiumlaw49_RecordOne [Event.lst tt l, .int d, .int t] st (.bool true) := by
  refine (H.podiumlaw49_RecordOne).pure hmix rfl rfl ?_
  by_cases hl : (60 : Int) < (l.length : Int)
  · repeat' (first
      | (with_reducible refine Fresh.intro fun b hb => ?_) <;> (try simp -dsimp -implicitDefEqProofs [*] at hb)
      | (with_reducible refine Rets.xcall (sane_spec _) ?_)
      | (with_reducible refine Rets.xsoft (sane_spec _) ?_)
      | (with_reducible refine xlateCall_of (fun _ => sane_spec _) ?_)
      | (with_reducible refine Lit.imm ?_)
      | ((with_reducible refine Grow.intro ?_ fun b cap hb hc1 hc2 => ?_); omega) <;> (try simp -dsimp -implicitDefEqProofs [*] at hb)
      | (with_reducible refine DrawLate.intro [] ?_)
      | (with_reducible refine Cls_and ?_ ?_)
      | (with_reducible exact Cls.self _ _)
      | (with_reducible refine Cls_same ?_)
      | (with_reducible refine Cls_in ?_ ?_)
      | (with_reducible refine Cls_fresh ?_ ?_)
      | (with_reducible refine And.intro (fun h => ?_) (fun h => ?_)) <;> (try (exfalso; omega))
      | (with_reducible refine And.intro (fun h => ?_) ?_) <;> (try (exfalso; omega))
      | ((with_reducible refine and_keep ?_ fun hk => ?_); omega)
      | (simp -dsimp -implicitDefEqProofs [*]))
  have hl9 : l.length ≤ 60 := by omega
  by_cases hn : standN l d t = 0
  · obtain ⟨X, hX, f1, f2, f3, f4, f5, f6⟩ : ∃ X, standL l d t = X ∧ (l.filter fun x => stands l x d t) = X ∧ checkE l = 0 ∧ checkE X = 0 ∧ (∀ x ∈ X, counts x d t = true) ∧
      (∀ k i (hi : i < X.length) (hk : k < i), sameSlot X[k] X[i] = false) ∧ ∀ y ∈ l, counts y d t = true → (X.any fun z => sameSlot y z && !later y z) = true := ⟨_, rfl, one_facts hn⟩
    have h2 : X.length ≤ l.length := hX ▸ standL_len l d t
    have lX : X.length ≤ 60 := by omega
    repeat' (first
      | (with_reducible refine Fresh.intro fun b hb => ?_) <;> (try simp -dsimp -implicitDefEqProofs [*] at hb)
      | (with_reducible refine Rets.xcall (sane_spec _) ?_)
      | (with_reducible refine Rets.xsoft (sane_spec _) ?_)
      | (with_reducible refine xlateCall_of (fun _ => sane_spec _) ?_)
      | (with_reducible refine Rets.xcall (standing_spec ..) ?_)
      | (with_reducible refine Rets.xsoft (standing_spec ..) ?_)
      | (with_reducible refine xlateCall_of (fun _ => standing_spec ..) ?_)
      | (with_reducible refine Lit.imm ?_)
      | ((with_reducible refine Grow.intro ?_ fun b cap hb hc1 hc2 => ?_); omega) <;> (try simp -dsimp -implicitDefEqProofs [*] at hb)
      | (with_reducible refine DrawLate.intro [] ?_)
      | (with_reducible refine Cls_and ?_ ?_)
      | (with_reducible exact Cls.self _ _)
      | (with_reducible refine Cls_same ?_)
      | (with_reducible refine Cls_in ?_ ?_)
      | (with_reducible refine Cls_fresh ?_ ?_)
      | (with_reducible refine And.intro (fun h => ?_) (fun h => ?_)) <;> (try (exfalso; omega))
      | (with_reducible refine And.intro (fun h => ?_) ?_) <;> (try (exfalso; omega))
      | ((with_reducible refine and_keep ?_ fun hk => ?_); omega)
      | (simp -dsimp -implicitDefEqProofs [*]))
    refine xloop_for (fun y : Nat × Nat => [(0, Event.lst tt l), (1, .int d), (2, .int t), (6, .bool false), (7, Event.lst false X), (9, .int (y.2 : Nat)), (35, Event.lst false X), (36, .int X.length), (37, .int (y.1 : Nat))]) (fun _ => st)
      (fun y => y.1 ≤ X.length ∧ y.2 ≤ l.length ∧ ((l.take y.2).filter fun x => stands l x d t) = X.take y.1) (fun y => X.length - y.1) (0, 0) ⟨by omega, by omega, by simp⟩ (by simp [*]) (.refl _) ?_
    rintro ⟨i, at'⟩ ⟨hi, ha, hF⟩
    simp only at hi ha hF
    have hw := wrap_succ (n := i) (by omega)
    have step := fun (at' : Nat) (h : ((l.take at').filter fun x => stands l x d t) = X.take i) (hi : i < X.length) => one_step f1 h hi
    clear f1 hn hX
    by_cases hi2 : i < X.length
    · have hcx := f4 _ (List.getElem_mem hi2)
      have hsx := fun k (hk : k < i) => f5 k i hi2 hk
      clear f4 f5 f6
      repeat' (first
        | (with_reducible refine Fresh.intro fun b hb => ?_) <;> (try simp -dsimp -implicitDefEqProofs [*] at hb)
        | (with_reducible refine Lit.imm ?_)
        | ((with_reducible refine Grow.intro ?_ fun b cap hb hc1 hc2 => ?_); omega) <;> (try simp -dsimp -implicitDefEqProofs [*] at hb)
        | (with_reducible refine DrawLate.intro [] ?_)
        | (with_reducible refine Cls_and ?_ ?_)
        | (with_reducible exact Cls.self _ _)
        | (with_reducible refine Cls_same ?_)
        | (with_reducible refine Cls_in ?_ ?_)
        | (with_reducible refine Cls_fresh ?_ ?_)
        | (with_reducible refine And.intro (fun h => ?_) (fun h => ?_)) <;> (try (exfalso; omega))
        | (with_reducible refine And.intro (fun h => ?_) ?_) <;> (try (exfalso; omega))
        | ((with_reducible refine and_keep ?_ fun hk => ?_); omega)
        | (simp -dsimp -implicitDefEqProofs [*]))
      refine xloop_for (fun y : Nat => [(0, Event.lst tt l), (1, .int d), (2, .int t), (6, .bool false), (7, Event.lst false X), (9, .int (y : Nat)), (35, Event.lst false X), (36, .int X.length), (37, .int (i : Nat)), (10, .int (i : Nat)), (11, .ptr b 0)]) (fun _ => (b, .arr T.apiEvent X[i].enc) :: st)
        (fun y => y ≤ l.length ∧ ((l.take y).filter fun x => stands l x d t) = X.take i) (fun y => l.length - y) at' ⟨ha, hF⟩ (by simp) (.refl _) ?_
      clear hF ha
      rintro q ⟨hq, hF⟩
      try simp only at hq hF
      obtain ⟨hq2, hs1, hs2⟩ := step q hF hi2
      have hw3 := wrap_succ (n := q) (by omega)
      clear step hF
      by_cases he : l[q] = X[i]
      · have hF2 := hs2 he
        clear hs1 hs2
        have hcb : btw 0 0 0 = true := rfl
        clear hcb
        repeat' (first
          | (with_reducible refine Fresh.intro fun b hb => ?_) <;> (try simp -dsimp -implicitDefEqProofs [*] at hb)
          | (with_reducible refine Rets.xcall (counts_spec ..) ?_)
          | (with_reducible refine Rets.xsoft (counts_spec ..) ?_)
          | (with_reducible refine xlateCall_of (fun _ => counts_spec ..) ?_)
          | (with_reducible refine Lit.imm ?_)
          | ((with_reducible refine Grow.intro ?_ fun b cap hb hc1 hc2 => ?_); omega) <;> (try simp -dsimp -implicitDefEqProofs [*] at hb)
          | (with_reducible refine DrawLate.intro [] ?_)
          | (with_reducible refine Cls_and ?_ ?_)
          | (with_reducible exact Cls.self _ _)
          | (with_reducible refine Cls_same ?_)
          | (with_reducible refine Cls_in ?_ ?_)
          | (with_reducible refine Cls_fresh ?_ ?_)
          | (with_reducible refine And.intro (fun h => ?_) (fun h => ?_)) <;> (try (exfalso; omega))
          | (with_reducible refine And.intro (fun h => ?_) ?_) <;> (try (exfalso; omega))
          | ((with_reducible refine and_keep ?_ fun hk => ?_); omega)
          | (simp -dsimp -implicitDefEqProofs [*]))
        refine xloop_for (fun k : Nat => [(0, Event.lst tt l), (1, .int d), (2, .int t), (6, .bool false), (7, Event.lst false X), (9, .int ((q + 1 : Nat))), (35, Event.lst false X), (36, .int X.length), (37, .int (i : Nat)), (69, .int (i : Nat)), (70, .int (k : Nat)), (11, .ptr b 0)]) (fun _ => (b, .arr T.apiEvent X[i].enc) :: st)
          (fun k => k ≤ i) (fun k => i - k) 0 (by omega) (by simp) (.refl _) ?_
        intro k hk
        have hw4 := wrap_succ (n := k) (by omega)
        by_cases hk2 : k < i
        · have hsk := hsx k hk2
          clear hsx
          repeat' (first
            | (with_reducible refine Fresh.intro fun b hb => ?_) <;> (try simp -dsimp -implicitDefEqProofs [*] at hb)
            | (with_reducible refine Rets.xcall (slot_spec ..) ?_)
            | (with_reducible refine Rets.xsoft (slot_spec ..) ?_)
            | (with_reducible refine xlateCall_of (fun _ => slot_spec ..) ?_)
            | (with_reducible refine Lit.imm ?_)
            | ((with_reducible refine Grow.intro ?_ fun b cap hb hc1 hc2 => ?_); omega) <;> (try simp -dsimp -implicitDefEqProofs [*] at hb)
            | (with_reducible refine DrawLate.intro [] ?_)
            | (with_reducible refine Cls_and ?_ ?_)
            | (with_reducible exact Cls.self _ _)
            | (with_reducible refine Cls_same ?_)
            | (with_reducible refine Cls_in ?_ ?_)
            | (with_reducible refine Cls_fresh ?_ ?_)
            | (with_reducible refine And.intro (fun h => ?_) (fun h => ?_)) <;> (try (exfalso; omega))
            | (with_reducible refine And.intro (fun h => ?_) ?_) <;> (try (exfalso; omega))
            | ((with_reducible refine and_keep ?_ fun hk => ?_); omega)
            | (simp -dsimp -implicitDefEqProofs [*]))
          exact Next.intro (k + 1) (by omega) (by omega) (by simp) (by repeat' (first | exact StLe.refl _ | (refine StLe_cons (by simp [*]; done) ?_) | (refine StLe_fresh (by simp [*]; done) ?_)))
        · have hk3 : k = i := by omega
          subst hk3
          clear hsx
          repeat' (first
            | (with_reducible refine Fresh.intro fun b hb => ?_) <;> (try simp -dsimp -implicitDefEqProofs [*] at hb)
            | (with_reducible refine Lit.imm ?_)
            | ((with_reducible refine Grow.intro ?_ fun b cap hb hc1 hc2 => ?_); omega) <;> (try simp -dsimp -implicitDefEqProofs [*] at hb)
            | (with_reducible refine DrawLate.intro [] ?_)
            | (with_reducible refine Cls_and ?_ ?_)
            | (with_reducible exact Cls.self _ _)
            | (with_reducible refine Cls_same ?_)
            | (with_reducible refine Cls_in ?_ ?_)
            | (with_reducible refine Cls_fresh ?_ ?_)
            | (with_reducible refine And.intro (fun h => ?_) (fun h => ?_)) <;> (try (exfalso; omega))
            | (with_reducible refine And.intro (fun h => ?_) ?_) <;> (try (exfalso; omega))
            | ((with_reducible refine and_keep ?_ fun hk => ?_); omega)
            | (simp -dsimp -implicitDefEqProofs [*]))
          exact Next.intro (k + 1, q + 1) ⟨by simp only; omega, by simp only; omega, hF2⟩ (by simp only; omega) (by simp) (by repeat' (first | exact StLe.refl _ | (refine StLe_cons (by simp [*]; done) ?_) | (refine StLe_fresh (by simp [*]; done) ?_)))
      · have hF2 := hs1 he
        clear hs1 hs2
        repeat' (first
          | (with_reducible refine Fresh.intro fun b hb => ?_) <;> (try simp -dsimp -implicitDefEqProofs [*] at hb)
          | (with_reducible refine Lit.imm ?_)
          | ((with_reducible refine Grow.intro ?_ fun b cap hb hc1 hc2 => ?_); omega) <;> (try simp -dsimp -implicitDefEqProofs [*] at hb)
          | (with_reducible refine DrawLate.intro [] ?_)
          | (with_reducible refine Cls_and ?_ ?_)
          | (with_reducible exact Cls.self _ _)
          | (with_reducible refine Cls_same ?_)
          | (with_reducible refine Cls_in ?_ ?_)
          | (with_reducible refine Cls_fresh ?_ ?_)
          | (with_reducible refine And.intro (fun h => ?_) (fun h => ?_)) <;> (try (exfalso; omega))
          | (with_reducible refine And.intro (fun h => ?_) ?_) <;> (try (exfalso; omega))
          | ((with_reducible refine and_keep ?_ fun hk => ?_); omega)
          | (simp -dsimp -implicitDefEqProofs [*]))
        exact Next.intro (q + 1) ⟨by omega, hF2⟩ (by omega) (by simp) (by repeat' (first | exact StLe.refl _ | (refine StLe_cons (by simp [*]; done) ?_) | (refine StLe_fresh (by simp [*]; done) ?_)))
    · have hi3 : i = X.length := by omega
      subst hi3
      clear hF step f4 f5
      repeat' (first
        | (with_reducible refine Fresh.intro fun b hb => ?_) <;> (try simp -dsimp -implicitDefEqProofs [*] at hb)
        | (with_reducible refine Lit.imm ?_)
        | ((with_reducible refine Grow.intro ?_ fun b cap hb hc1 hc2 => ?_); omega) <;> (try simp -dsimp -implicitDefEqProofs [*] at hb)
        | (with_reducible refine DrawLate.intro [] ?_)
        | (with_reducible refine Cls_and ?_ ?_)
        | (with_reducible exact Cls.self _ _)
        | (with_reducible refine Cls_same ?_)
        | (with_reducible refine Cls_in ?_ ?_)
        | (with_reducible refine Cls_fresh ?_ ?_)
        | (with_reducible refine And.intro (fun h => ?_) (fun h => ?_)) <;> (try (exfalso; omega))
        | (with_reducible refine And.intro (fun h => ?_) ?_) <;> (try (exfalso; omega))
        | ((with_reducible refine and_keep ?_ fun hk => ?_); omega)
        | (simp -dsimp -implicitDefEqProofs [*]))
      refine xloop_for (fun j : Nat => [(0, Event.lst tt l), (1, .int d), (2, .int t), (6, .bool false), (7, Event.lst false X), (81, Event.lst tt l), (82, .int l.length), (83, .int (j : Nat))]) (fun _ => st)
        (fun j => j ≤ l.length) (fun j => l.length - j) 0 (by omega) (by simp) (.refl _) ?_
      intro j hj
      have hw5 := wrap_succ (n := j) (by omega)
      by_cases hj2 : j < l.length
      · have hany := f6 _ (List.getElem_mem hj2)
        clear f6
        cases hcj : counts l[j] d t with
        | false =>
          clear hany
          repeat' (first
            | (with_reducible refine Fresh.intro fun b hb => ?_) <;> (try simp -dsimp -implicitDefEqProofs [*] at hb)
            | (with_reducible refine Rets.xcall (counts_spec ..) ?_)
            | (with_reducible refine Rets.xsoft (counts_spec ..) ?_)
            | (with_reducible refine xlateCall_of (fun _ => counts_spec ..) ?_)
            | (with_reducible refine Lit.imm ?_)
            | ((with_reducible refine Grow.intro ?_ fun b cap hb hc1 hc2 => ?_); omega) <;> (try simp -dsimp -implicitDefEqProofs [*] at hb)
            | (with_reducible refine DrawLate.intro [] ?_)
            | (with_reducible refine Cls_and ?_ ?_)
            | (with_reducible exact Cls.self _ _)
            | (with_reducible refine Cls_same ?_)
            | (with_reducible refine Cls_in ?_ ?_)
            | (with_reducible refine Cls_fresh ?_ ?_)
            | (with_reducible refine And.intro (fun h => ?_) (fun h => ?_)) <;> (try (exfalso; omega))
            | (with_reducible refine And.intro (fun h => ?_) ?_) <;> (try (exfalso; omega))
            | ((with_reducible refine and_keep ?_ fun hk => ?_); omega)
            | (simp -dsimp -implicitDefEqProofs [*]))
          exact Next.intro (j + 1) (by omega) (by omega) (by simp) (by repeat' (first | exact StLe.refl _ | (refine StLe_cons (by simp [*]; done) ?_) | (refine StLe_fresh (by simp [*]; done) ?_)))
        | true =>
          have hany := hany hcj
          repeat' (first
            | (with_reducible refine Fresh.intro fun b hb => ?_) <;> (try simp -dsimp -implicitDefEqProofs [*] at hb)
            | (with_reducible refine Rets.xcall (counts_spec ..) ?_)
            | (with_reducible refine Rets.xsoft (counts_spec ..) ?_)
            | (with_reducible refine xlateCall_of (fun _ => counts_spec ..) ?_)
            | (with_reducible refine Lit.imm ?_)
            | ((with_reducible refine Grow.intro ?_ fun b cap hb hc1 hc2 => ?_); omega) <;> (try simp -dsimp -implicitDefEqProofs [*] at hb)
            | (with_reducible refine DrawLate.intro [] ?_)
            | (with_reducible refine Cls_and ?_ ?_)
            | (with_reducible exact Cls.self _ _)
            | (with_reducible refine Cls_same ?_)
            | (with_reducible refine Cls_in ?_ ?_)
            | (with_reducible refine Cls_fresh ?_ ?_)
            | (with_reducible refine And.intro (fun h => ?_) (fun h => ?_)) <;> (try (exfalso; omega))
            | (with_reducible refine And.intro (fun h => ?_) ?_) <;> (try (exfalso; omega))
            | ((with_reducible refine and_keep ?_ fun hk => ?_); omega)
            | (simp -dsimp -implicitDefEqProofs [*]))
          refine xloop_for (fun k : Nat => [(0, Event.lst tt l), (1, .int d), (2, .int t), (6, .bool false), (7, Event.lst false X), (81, Event.lst tt l), (82, .int l.length), (83, .int (j : Nat)), (14, .ptr b 0), (92, Event.lst false X), (93, .int X.length), (94, .int (k : Nat)), (15, .bool ((X.take k).any fun z => sameSlot l[j] z && !later l[j] z))]) (fun _ => (b, .arr T.apiEvent l[j].enc) :: st)
            (fun k => k ≤ X.length) (fun k => X.length - k) 0 (by omega) (by simp) (.refl _) ?_
          intro k hk
          have hw6 := wrap_succ (n := k) (by omega)
          by_cases hk2 : k < X.length
          · have hsn : ((X.take (k + 1)).any fun z => sameSlot l[j] z && !later l[j] z) = (((X.take k).any fun z => sameSlot l[j] z && !later l[j] z) || (sameSlot l[j] X[k] && !later l[j] X[k])) := by
              rw [List.take_succ_eq_append_getElem hk2, List.any_append]; simp
            clear hany
            generalize hA : ((X.take k).any fun z => sameSlot l[j] z && !later l[j] z) = A at *
            cases A <;> cases hS : sameSlot l[j] X[k] <;> cases hL : later l[j] X[k]
            all_goals
              simp only [hS, hL, Bool.not_true, Bool.not_false, Bool.and_true, Bool.and_false, Bool.or_true, Bool.or_false, Bool.false_or, Bool.true_or] at hsn
            all_goals
              repeat' (first
                | (with_reducible refine Fresh.intro fun b hb => ?_) <;> (try simp -dsimp -implicitDefEqProofs [*] at hb)
                | (with_reducible refine Rets.xcall (slot_spec ..) ?_)
                | (with_reducible refine Rets.xsoft (slot_spec ..) ?_)
                | (with_reducible refine xlateCall_of (fun _ => slot_spec ..) ?_)
                | (with_reducible refine Rets.xcall (later_spec ..) ?_)
                | (with_reducible refine Rets.xsoft (later_spec ..) ?_)
                | (with_reducible refine xlateCall_of (fun _ => later_spec ..) ?_)
                | (with_reducible refine Lit.imm ?_)
                | ((with_reducible refine Grow.intro ?_ fun b cap hb hc1 hc2 => ?_); omega) <;> (try simp -dsimp -implicitDefEqProofs [*] at hb)
                | (with_reducible refine DrawLate.intro [] ?_)
                | (with_reducible refine Cls_and ?_ ?_)
                | (with_reducible exact Cls.self _ _)
                | (with_reducible refine Cls_same ?_)
                | (with_reducible refine Cls_in ?_ ?_)
                | (with_reducible refine Cls_fresh ?_ ?_)
                | (with_reducible refine And.intro (fun h => ?_) (fun h => ?_)) <;> (try (exfalso; omega))
                | (with_reducible refine And.intro (fun h => ?_) ?_) <;> (try (exfalso; omega))
                | ((with_reducible refine and_keep ?_ fun hk => ?_); omega)
                | (simp -dsimp -implicitDefEqProofs [*]))
              exact Next.intro (k + 1) (by omega) (by omega) (by simp [hsn]) (by repeat' (first | exact StLe.refl _ | (refine StLe_cons (by simp [*]; done) ?_) | (refine StLe_fresh (by simp [*]; done) ?_)))
          · have hk3 : k = X.length := by omega
            subst hk3
            rw [List.take_of_length_le (Nat.le_refl _), hany]
            clear hany
            repeat' (first
              | (with_reducible refine Fresh.intro fun b hb => ?_) <;> (try simp -dsimp -implicitDefEqProofs [*] at hb)
              | (with_reducible refine Lit.imm ?_)
              | ((with_reducible refine Grow.intro ?_ fun b cap hb hc1 hc2 => ?_); omega) <;> (try simp -dsimp -implicitDefEqProofs [*] at hb)
              | (with_reducible refine DrawLate.intro [] ?_)
              | (with_reducible refine Cls_and ?_ ?_)
              | (with_reducible exact Cls.self _ _)
              | (with_reducible refine Cls_same ?_)
              | (with_reducible refine Cls_in ?_ ?_)
              | (with_reducible refine Cls_fresh ?_ ?_)
              | (with_reducible refine And.intro (fun h => ?_) (fun h => ?_)) <;> (try (exfalso; omega))
              | (with_reducible refine And.intro (fun h => ?_) ?_) <;> (try (exfalso; omega))
              | ((with_reducible refine and_keep ?_ fun hk => ?_); omega)
              | (simp -dsimp -implicitDefEqProofs [*]))
            exact Next.intro (j + 1) (by omega) (by omega) (by simp) (by repeat' (first | exact StLe.refl _ | (refine StLe_cons (by simp [*]; done) ?_) | (refine StLe_fresh (by simp [*]; done) ?_)))
      · have hj3 : j = l.length := by omega
        subst hj3
        clear f6
        repeat' (first
          | (with_reducible refine Fresh.intro fun b hb => ?_) <;> (try simp -dsimp -implicitDefEqProofs [*] at hb)
          | (with_reducible refine Rets.xcall (check_spec ..) ?_)
          | (with_reducible refine Rets.xsoft (check_spec ..) ?_)
          | (with_reducible refine xlateCall_of (fun _ => check_spec ..) ?_)
          | (with_reducible refine Lit.imm ?_)
          | ((with_reducible refine Grow.intro ?_ fun b cap hb hc1 hc2 => ?_); omega) <;> (try simp -dsimp -implicitDefEqProofs [*] at hb)
          | (with_reducible refine DrawLate.intro [] ?_)
          | (with_reducible refine Cls_and ?_ ?_)
          | (with_reducible exact Cls.self _ _)
          | (with_reducible refine Cls_same ?_)
          | (with_reducible refine Cls_in ?_ ?_)
          | (with_reducible refine Cls_fresh ?_ ?_)
          | (with_reducible refine And.intro (fun h => ?_) (fun h => ?_)) <;> (try (exfalso; omega))
          | (with_reducible refine And.intro (fun h => ?_) ?_) <;> (try (exfalso; omega))
          | ((with_reducible refine and_keep ?_ fun hk => ?_); omega)
          | (simp -dsimp -implicitDefEqProofs [*]))
  · have hL : standL l d t = [] := by simp [standL, hn]
    repeat' (first
      | (with_reducible refine Fresh.intro fun b hb => ?_) <;> (try simp -dsimp -implicitDefEqProofs [*] at hb)
      | (with_reducible refine Rets.xcall (sane_spec _) ?_)
      | (with_reducible refine Rets.xsoft (sane_spec _) ?_)
      | (with_reducible refine xlateCall_of (fun _ => sane_spec _) ?_)
      | (with_reducible refine Rets.xcall (standing_spec ..) ?_)
      | (with_reducible refine Rets.xsoft (standing_spec ..) ?_)
      | (with_reducible refine xlateCall_of (fun _ => standing_spec ..) ?_)
      | (with_reducible refine Lit.imm ?_)
      | ((with_reducible refine Grow.intro ?_ fun b cap hb hc1 hc2 => ?_); omega) <;> (try simp -dsimp -implicitDefEqProofs [*] at hb)
      | (with_reducible refine DrawLate.intro [] ?_)
      | (with_reducible refine Cls_and ?_ ?_)
      | (with_reducible exact Cls.self _ _)
      | (with_reducible refine Cls_same ?_)
      | (with_reducible refine Cls_in ?_ ?_)
      | (with_reducible refine Cls_fresh ?_ ?_)
      | (with_reducible refine And.intro (fun h => ?_) (fun h => ?_)) <;> (try (exfalso; omega))
      | (with_reducible refine And.intro (fun h => ?_) ?_) <;> (try (exfalso; omega))
      | ((with_reducible refine and_keep ?_ fun hk => ?_); omega)
      | (simp -dsimp -implicitDefEqProofs [*]))
end Go.Proofs.Ytahdhdgglbcagaa
