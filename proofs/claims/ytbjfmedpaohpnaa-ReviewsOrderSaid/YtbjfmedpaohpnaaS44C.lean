/- The reference: validity, Check, Standing. -/
import Derived.Test.YtbjfmedpaohpnaaS44B
namespace Go.Proofs.Ytbjfmedpaohpnaa
open Go.Pv
set_option maxRecDepth 100000
theorem id_spec (n : Int) (st : Store) : Rets P F.podiumref44_id [.int n] st (.bool (wi n 1048577)) := by
  refine H.podiumref44_id.pure hmix rfl rfl ?_
  simp -dsimp -implicitDefEqProofs
  simp [wi]; grind
theorem moment_spec (n : Int) (st : Store) : Rets P F.podiumref44_moment [.int n] st (.bool (wi n 2097152)) := by
  refine H.podiumref44_moment.pure hmix rfl rfl ?_
  simp -dsimp -implicitDefEqProofs
  simp [wi]; grind
theorem refValid_spec (e : Review) (st : Store) : Rets P F.podiumref44_Valid [e.pv] st (.bool (validE e)) := by
  refine H.podiumref44_Valid.pure hmix rfl rfl ?_
  repeat' (first
    | (with_reducible refine Fresh.intro fun b hb => ?_) <;> (try simp -dsimp -implicitDefEqProofs [*] at hb)
    | (with_reducible refine Rets.xcall (id_spec ..) ?_)
    | (with_reducible refine Rets.xsoft (id_spec ..) ?_)
    | (with_reducible refine xlateCall_of (fun _ => id_spec ..) ?_)
    | (with_reducible refine Rets.xcall (moment_spec ..) ?_)
    | (with_reducible refine Rets.xsoft (moment_spec ..) ?_)
    | (with_reducible refine xlateCall_of (fun _ => moment_spec ..) ?_)
    | (with_reducible refine Lit.imm ?_)
    | ((with_reducible refine Grow.intro ?_ fun b cap hb hc1 hc2 => ?_); omega) <;> (try simp -dsimp -implicitDefEqProofs [*] at hb)
    | (with_reducible refine RetView.nil2 ?_)
    | (with_reducible refine RetView.nil1 ?_)
    | (with_reducible refine RetView.loose2 (t := true) ?_)
    | (with_reducible refine RetView.loose1 (t := true) ?_)
    | (with_reducible refine RetView.fz 1 ?_ ?_)
    | (with_reducible refine RetView.same ?_)
    | (with_reducible refine DrawLate.intro [] ?_)
    | (with_reducible refine Cls_and ?_ ?_)
    | (with_reducible exact Cls.self _ _)
    | (with_reducible refine Cls_same ?_)
    | (with_reducible refine Cls_in ?_ ?_)
    | (with_reducible refine Cls_fresh ?_ ?_)
    | (with_reducible refine And.intro (fun h => ?_) (fun h => ?_)) <;> (try (exfalso; omega))
    | (with_reducible refine And.intro (fun h => ?_) ?_) <;> (try (exfalso; omega))
    | ((with_reducible refine and_keep ?_ fun hk => ?_); omega)
    | (simp -dsimp -implicitDefEqProofs [*]))
  all_goals (simp_all [validE]; try grind)
theorem refCheck_spec (t : Bool) (l : List Review) (st : Store) : Rets P F.podiumref44_Check [Review.lst t l] st (.int (checkE l)) := by
  refine H.podiumref44_Check.pure hmix rfl rfl ?_
  repeat' (first
    | (with_reducible refine Fresh.intro fun b hb => ?_) <;> (try simp -dsimp -implicitDefEqProofs [*] at hb)
    | (with_reducible refine Lit.imm ?_)
    | ((with_reducible refine Grow.intro ?_ fun b cap hb hc1 hc2 => ?_); omega) <;> (try simp -dsimp -implicitDefEqProofs [*] at hb)
    | (with_reducible refine RetView.nil2 ?_)
    | (with_reducible refine RetView.nil1 ?_)
    | (with_reducible refine RetView.loose2 (t := true) ?_)
    | (with_reducible refine RetView.loose1 (t := true) ?_)
    | (with_reducible refine RetView.fz 1 ?_ ?_)
    | (with_reducible refine RetView.same ?_)
    | (with_reducible refine DrawLate.intro [] ?_)
    | (with_reducible refine Cls_and ?_ ?_)
    | (with_reducible exact Cls.self _ _)
    | (with_reducible refine Cls_same ?_)
    | (with_reducible refine Cls_in ?_ ?_)
    | (with_reducible refine Cls_fresh ?_ ?_)
    | (with_reducible refine And.intro (fun h => ?_) (fun h => ?_)) <;> (try (exfalso; omega))
    | (with_reducible refine And.intro (fun h => ?_) ?_) <;> (try (exfalso; omega))
    | ((with_reducible refine and_keep ?_ fun hk => ?_); omega)
    | (simp -dsimp -implicitDefEqProofs [*]))
  · simp [checkE]; omega
  · refine xloop_for (fun i => [(0, Review.lst t l), (3, .int (i : Nat))]) (fun _ => st) (fun i => i ≤ l.length ∧ ok (l.take i)) (fun i => l.length - i) 0 ?_ ?_ ?_ ?_
    · exact ⟨Nat.zero_le _, by simpa using ok_nil⟩
    · simp
    · exact StLe.refl _
    rintro i ⟨hi, hok⟩
    have hw := wrap_succ (n := i) (by omega)
    have hw2 : IntKind.i64.wrap ((i : Int) - 1) = (i : Int) - 1 := wrap_in (by omega) (by omega)
    have ht : ((i : Int) - 1).toNat = i - 1 := by omega
    have hprev : ∀ h : i - 1 < l.length, 0 < i → lastE (l.take i) = l[i - 1].no := fun h h0 => by
      obtain ⟨j, rfl⟩ : ∃ j, i = j + 1 := ⟨i - 1, by omega⟩
      exact lastE_step (by omega)
    repeat' (first
      | (with_reducible refine Fresh.intro fun b hb => ?_) <;> (try simp -dsimp -implicitDefEqProofs [*] at hb)
      | (with_reducible refine Rets.xcall (refValid_spec _ _) ?_)
      | (with_reducible refine Rets.xsoft (refValid_spec _ _) ?_)
      | (with_reducible refine xlateCall_of (fun _ => refValid_spec _ _) ?_)
      | (with_reducible refine Lit.imm ?_)
      | ((with_reducible refine Grow.intro ?_ fun b cap hb hc1 hc2 => ?_); omega) <;> (try simp -dsimp -implicitDefEqProofs [*] at hb)
      | (with_reducible refine RetView.nil2 ?_)
      | (with_reducible refine RetView.nil1 ?_)
      | (with_reducible refine RetView.loose2 (t := true) ?_)
      | (with_reducible refine RetView.loose1 (t := true) ?_)
      | (with_reducible refine RetView.fz 1 ?_ ?_)
      | (with_reducible refine RetView.same ?_)
      | (with_reducible refine DrawLate.intro [] ?_)
      | (with_reducible refine Cls_and ?_ ?_)
      | (with_reducible exact Cls.self _ _)
      | (with_reducible refine Cls_same ?_)
      | (with_reducible refine Cls_in ?_ ?_)
      | (with_reducible refine Cls_fresh ?_ ?_)
      | (with_reducible refine And.intro (fun h => ?_) (fun h => ?_)) <;> (try (exfalso; omega))
      | (with_reducible refine And.intro (fun h => ?_) ?_) <;> (try (exfalso; omega))
      | ((with_reducible refine and_keep ?_ fun hk => ?_); omega)
      | (simp -dsimp -implicitDefEqProofs [*]))
    · exact (check_no ‹_› hok (by omega) (.inr (by rw [hprev ‹_› ‹_›]; exact ‹_›))).symm
    · refine Next.intro (i + 1) ⟨by omega, (ok_step ‹_› hok).2 ⟨‹_›, by rw [hprev ‹_› ‹_›]; omega⟩⟩ (by omega) (by simp [hw]) (by simp)
    · subst i
      refine Next.intro 1 ⟨by omega, (ok_step ‹_› hok).2 ⟨‹_›, by have := valid_no ‹validE _ = true›; simp; omega⟩⟩ (by omega) (by simp) (by simp)
    · exact (check_no ‹_› hok (by omega) (.inl ‹_›)).symm
    · rw [List.take_of_length_le ‹_›] at hok
      exact (checkE_zero.2 ⟨by omega, hok⟩).symm
theorem stands_spec (e : Review) (t : Int) (st : Store) : Rets P F.podiumref44_Stands [e.pv, .int t] st (.bool (standsE t e)) := by
  refine H.podiumref44_Stands.pure hmix rfl rfl ?_
  repeat' (first
    | (with_reducible refine Fresh.intro fun b hb => ?_) <;> (try simp -dsimp -implicitDefEqProofs [*] at hb)
    | (with_reducible refine Lit.imm ?_)
    | ((with_reducible refine Grow.intro ?_ fun b cap hb hc1 hc2 => ?_); omega) <;> (try simp -dsimp -implicitDefEqProofs [*] at hb)
    | (with_reducible refine RetView.nil2 ?_)
    | (with_reducible refine RetView.nil1 ?_)
    | (with_reducible refine RetView.loose2 (t := true) ?_)
    | (with_reducible refine RetView.loose1 (t := true) ?_)
    | (with_reducible refine RetView.fz 1 ?_ ?_)
    | (with_reducible refine RetView.same ?_)
    | (with_reducible refine DrawLate.intro [] ?_)
    | (with_reducible refine Cls_and ?_ ?_)
    | (with_reducible exact Cls.self _ _)
    | (with_reducible refine Cls_same ?_)
    | (with_reducible refine Cls_in ?_ ?_)
    | (with_reducible refine Cls_fresh ?_ ?_)
    | (with_reducible refine And.intro (fun h => ?_) (fun h => ?_)) <;> (try (exfalso; omega))
    | (with_reducible refine And.intro (fun h => ?_) ?_) <;> (try (exfalso; omega))
    | ((with_reducible refine and_keep ?_ fun hk => ?_); omega)
    | (simp -dsimp -implicitDefEqProofs [*]))
  all_goals (simp_all [standsE]; try grind)
theorem few_spec (t : Bool) (l : List Review) (st : Store) : Rets P F.podiumref44_Few [Review.lst t l] st (.bool (decide (l.length ≤ 30) || decide (1000 ≤ l.length) && decide (l.length ≤ 1100))) := by
  refine H.podiumref44_Few.pure hmix rfl rfl ?_
  repeat' (first
    | (with_reducible refine Fresh.intro fun b hb => ?_) <;> (try simp -dsimp -implicitDefEqProofs [*] at hb)
    | (with_reducible refine Lit.imm ?_)
    | ((with_reducible refine Grow.intro ?_ fun b cap hb hc1 hc2 => ?_); omega) <;> (try simp -dsimp -implicitDefEqProofs [*] at hb)
    | (with_reducible refine RetView.nil2 ?_)
    | (with_reducible refine RetView.nil1 ?_)
    | (with_reducible refine RetView.loose2 (t := true) ?_)
    | (with_reducible refine RetView.loose1 (t := true) ?_)
    | (with_reducible refine RetView.fz 1 ?_ ?_)
    | (with_reducible refine RetView.same ?_)
    | (with_reducible refine DrawLate.intro [] ?_)
    | (with_reducible refine Cls_and ?_ ?_)
    | (with_reducible exact Cls.self _ _)
    | (with_reducible refine Cls_same ?_)
    | (with_reducible refine Cls_in ?_ ?_)
    | (with_reducible refine Cls_fresh ?_ ?_)
    | (with_reducible refine And.intro (fun h => ?_) (fun h => ?_)) <;> (try (exfalso; omega))
    | (with_reducible refine And.intro (fun h => ?_) ?_) <;> (try (exfalso; omega))
    | ((with_reducible refine and_keep ?_ fun hk => ?_); omega)
    | (simp -dsimp -implicitDefEqProofs [*]))
  all_goals grind
theorem same_spec (ta tb : Bool) (a b : List Review) (hl : a.length ≤ 100000) (st : Store) : Rets P F.podiumref44_Same [Review.lst ta a, Review.lst tb b] st (.bool (decide (a = b))) := by
  refine H.podiumref44_Same.pure hmix rfl rfl ?_
  repeat' (first
    | (with_reducible refine Fresh.intro fun b hb => ?_) <;> (try simp -dsimp -implicitDefEqProofs [*] at hb)
    | (with_reducible refine Lit.imm ?_)
    | ((with_reducible refine Grow.intro ?_ fun b cap hb hc1 hc2 => ?_); omega) <;> (try simp -dsimp -implicitDefEqProofs [*] at hb)
    | (with_reducible refine RetView.nil2 ?_)
    | (with_reducible refine RetView.nil1 ?_)
    | (with_reducible refine RetView.loose2 (t := true) ?_)
    | (with_reducible refine RetView.loose1 (t := true) ?_)
    | (with_reducible refine RetView.fz 1 ?_ ?_)
    | (with_reducible refine RetView.same ?_)
    | (with_reducible refine DrawLate.intro [] ?_)
    | (with_reducible refine Cls_and ?_ ?_)
    | (with_reducible exact Cls.self _ _)
    | (with_reducible refine Cls_same ?_)
    | (with_reducible refine Cls_in ?_ ?_)
    | (with_reducible refine Cls_fresh ?_ ?_)
    | (with_reducible refine And.intro (fun h => ?_) (fun h => ?_)) <;> (try (exfalso; omega))
    | (with_reducible refine And.intro (fun h => ?_) ?_) <;> (try (exfalso; omega))
    | ((with_reducible refine and_keep ?_ fun hk => ?_); omega)
    | (simp -dsimp -implicitDefEqProofs [*]))
  · refine xloop_for (fun i => [(0, Review.lst ta a), (1, Review.lst tb b), (5, .int (i : Nat))]) (fun _ => st) (fun i => i ≤ a.length ∧ a.take i = b.take i) (fun i => a.length - i) 0 ?_ ?_ ?_ ?_
    · simp
    · simp
    · simp
    rintro i ⟨hi, hp⟩
    have hw := wrap_succ (n := i) (by omega)
    repeat' (first
      | (with_reducible refine Fresh.intro fun b hb => ?_) <;> (try simp -dsimp -implicitDefEqProofs [*] at hb)
      | (with_reducible refine Lit.imm ?_)
      | ((with_reducible refine Grow.intro ?_ fun b cap hb hc1 hc2 => ?_); omega) <;> (try simp -dsimp -implicitDefEqProofs [*] at hb)
      | (with_reducible refine RetView.nil2 ?_)
      | (with_reducible refine RetView.nil1 ?_)
      | (with_reducible refine RetView.loose2 (t := true) ?_)
      | (with_reducible refine RetView.loose1 (t := true) ?_)
      | (with_reducible refine RetView.fz 1 ?_ ?_)
      | (with_reducible refine RetView.same ?_)
      | (with_reducible refine DrawLate.intro [] ?_)
      | (with_reducible refine Cls_and ?_ ?_)
      | (with_reducible exact Cls.self _ _)
      | (with_reducible refine Cls_same ?_)
      | (with_reducible refine Cls_in ?_ ?_)
      | (with_reducible refine Cls_fresh ?_ ?_)
      | (with_reducible refine And.intro (fun h => ?_) (fun h => ?_)) <;> (try (exfalso; omega))
      | (with_reducible refine And.intro (fun h => ?_) ?_) <;> (try (exfalso; omega))
      | ((with_reducible refine and_keep ?_ fun hk => ?_); omega)
      | (simp -dsimp -implicitDefEqProofs [*]))
    · rename_i e
      refine Next.intro (i + 1) ⟨by omega, ?_⟩ (by omega) (by simp) (by simp)
      rw [List.take_succ_eq_append_getElem (by omega), List.take_succ_eq_append_getElem (by omega), hp]
      simp_all
    · rintro rfl; exact ‹¬ _› rfl
    · have h1 := List.take_of_length_le (l := a) (i := i) (by omega)
      have h2 := List.take_of_length_le (l := b) (i := i) (by omega)
      rw [← h1, hp, h2]
  · rintro rfl; omega
theorem refStanding_spec (tt : Bool) (l : List Review) (t : Int) (st : Store) : Rets P F.podiumref44_Standing [Review.lst tt l, .int t] st (.tuple [Review.lst false (standL l t), .int (standN l t)]) := by
  refine H.podiumref44_Standing.view hmix rfl rfl ?_
  by_cases hc : checkE l = 0
  · obtain ⟨hl, hok⟩ := checkE_zero.1 hc
    by_cases ht : wi t 2097152 = true
    · have hN : standN l t = 0 := by simp_all [standN]
      have hL : standL l t = l.filter (standsE t) := by simp [standL, hN]
      repeat' (first
        | (with_reducible refine Fresh.intro fun b hb => ?_) <;> (try simp -dsimp -implicitDefEqProofs [*] at hb)
        | (with_reducible refine Rets.xcall (refCheck_spec _ _ _) ?_)
        | (with_reducible refine Rets.xsoft (refCheck_spec _ _ _) ?_)
        | (with_reducible refine xlateCall_of (fun _ => refCheck_spec _ _ _) ?_)
        | (with_reducible refine Rets.xcall (moment_spec ..) ?_)
        | (with_reducible refine Rets.xsoft (moment_spec ..) ?_)
        | (with_reducible refine xlateCall_of (fun _ => moment_spec ..) ?_)
        | (with_reducible refine Lit.own (cs := []) (len := 0) fun b hb => ?_) <;> (try simp -dsimp -implicitDefEqProofs [*] at hb)
        | (with_reducible refine Lit.imm ?_)
        | ((with_reducible refine Grow.intro ?_ fun b cap hb hc1 hc2 => ?_); omega) <;> (try simp -dsimp -implicitDefEqProofs [*] at hb)
        | (with_reducible refine DrawLate.intro [] ?_)
        | (with_reducible refine Cls_and ?_ ?_)
        | (with_reducible exact Cls.self _ _)
        | (with_reducible refine Cls_same ?_)
        | (with_reducible refine Cls_in ?_ ?_)
        | (with_reducible refine Cls_fresh ?_ ?_)
        | (with_reducible refine And.intro (fun h => ?_) (fun h => ?_)) <;> (try (exfalso; omega))
        | (with_reducible refine And.intro (fun h => ?_) ?_) <;> (try (exfalso; omega))
        | ((with_reducible refine and_keep ?_ fun hk => ?_); omega)
        | (simp -dsimp -implicitDefEqProofs [*]))
      refine xloop_for (fun y : Nat × Acc Review => [(0, Review.lst tt l), (1, .int t), (7, .own y.2.b 0 y.2.l.length y.2.cap), (8, .int (y.1 : Nat))]) (fun y => (y.2.b, .arr T.apiReview y.2.R) :: st)
        (fun y => y.1 ≤ l.length ∧ y.2.Ok Review.row 5 ∧ snew st y.2.b ∧ (l.take y.1).filter (standsE t) = y.2.l) (fun y => l.length - y.1) (0, ⟨[], b, 0, []⟩) ?_ ?_ ?_ ?_
      · exact ⟨Nat.zero_le _, .nil rfl _, hb, rfl⟩
      · simp
      · simp
      rintro ⟨i, a⟩ ⟨hi, ha, hb, hF⟩
      simp only at hi ha hb hF
      have hw := wrap_succ (n := i) (by omega)
      have hfl := filter_len (f := standsE t) (l := l) (i := i)
      rw [hF] at hfl
      repeat' (first
        | (with_reducible refine Fresh.intro fun b hb => ?_) <;> (try simp -dsimp -implicitDefEqProofs [*] at hb)
        | (with_reducible refine Rets.xcall (stands_spec ..) ?_)
        | (with_reducible refine Rets.xsoft (stands_spec ..) ?_)
        | (with_reducible refine xlateCall_of (fun _ => stands_spec ..) ?_)
        | (with_reducible refine Lit.imm ?_)
        | ((with_reducible refine Grow.intro ?_ fun b cap hb hc1 hc2 => ?_); omega) <;> (try simp -dsimp -implicitDefEqProofs [*] at hb)
        | (with_reducible refine DrawLate.intro [] ?_)
        | (with_reducible refine Cls_and ?_ ?_)
        | (with_reducible exact Cls.self _ _)
        | (with_reducible refine Cls_same ?_)
        | (with_reducible refine Cls_in ?_ ?_)
        | (with_reducible refine Cls_fresh ?_ ?_)
        | (with_reducible refine And.intro (fun h => ?_) (fun h => ?_)) <;> (try (exfalso; omega))
        | (with_reducible refine And.intro (fun h => ?_) ?_) <;> (try (exfalso; omega))
        | ((with_reducible refine and_keep ?_ fun hk => ?_); omega)
        | (simp -dsimp -implicitDefEqProofs [*]))
      · refine xappend_acc Review.row_len Review.row_append ha (by simp) [l[i]] (by simp) (by simp) (by omega) fun a' ha' hl' hb' => ?_
        repeat' (first
          | (with_reducible refine Fresh.intro fun b hb => ?_) <;> (try simp -dsimp -implicitDefEqProofs [*] at hb)
          | (with_reducible refine Lit.imm ?_)
          | ((with_reducible refine Grow.intro ?_ fun b cap hb hc1 hc2 => ?_); omega) <;> (try simp -dsimp -implicitDefEqProofs [*] at hb)
          | (with_reducible refine DrawLate.intro [] ?_)
          | (with_reducible refine Cls_and ?_ ?_)
          | (with_reducible exact Cls.self _ _)
          | (with_reducible refine Cls_same ?_)
          | (with_reducible refine Cls_in ?_ ?_)
          | (with_reducible refine Cls_fresh ?_ ?_)
          | (with_reducible refine And.intro (fun h => ?_) (fun h => ?_)) <;> (try (exfalso; omega))
          | (with_reducible refine And.intro (fun h => ?_) ?_) <;> (try (exfalso; omega))
          | ((with_reducible refine and_keep ?_ fun hk => ?_); omega)
          | (simp -dsimp -implicitDefEqProofs [*]))
        refine Next.intro (i + 1, a') ⟨by simp only; omega, ha', by simpa [*] using hb', ?_⟩ (by simp only; omega) (by simp [hl']) (by repeat' (first | exact StLe.refl _ | (refine StLe_cons (by simp [*]; done) ?_) | (refine StLe_fresh (by simp [*]; done) ?_)))
        simp only
        rw [filter_step ‹_›, hF, hl']
        simp_all
      · refine Next.intro (i + 1, a) ⟨by simp only; omega, ha, hb, ?_⟩ (by simp only; omega) (by simp) (by simp)
        simp only
        rw [filter_step ‹_›, hF]
        simp_all
      · rw [List.take_of_length_le ‹_›] at hF
        have h2 := ha.row
        have h3 := ha.le
        have h4 := ha.cap
        repeat' (first
          | (with_reducible refine Fresh.intro fun b hb => ?_) <;> (try simp -dsimp -implicitDefEqProofs [*] at hb)
          | (with_reducible refine Lit.imm ?_)
          | ((with_reducible refine Grow.intro ?_ fun b cap hb hc1 hc2 => ?_); omega) <;> (try simp -dsimp -implicitDefEqProofs [*] at hb)
          | (with_reducible refine RetView.nil2 ?_)
          | (with_reducible refine RetView.nil1 ?_)
          | (with_reducible refine RetView.loose2 (t := true) ?_)
          | (with_reducible refine RetView.loose1 (t := true) ?_)
          | (with_reducible refine RetView.fz 5 ?_ ?_)
          | (with_reducible refine RetView.same ?_)
          | (with_reducible refine DrawLate.intro [] ?_)
          | (with_reducible refine Cls_and ?_ ?_)
          | (with_reducible exact Cls.self _ _)
          | (with_reducible refine Cls_same ?_)
          | (with_reducible refine Cls_in ?_ ?_)
          | (with_reducible refine Cls_fresh ?_ ?_)
          | (with_reducible refine And.intro (fun h => ?_) (fun h => ?_)) <;> (try (exfalso; omega))
          | (with_reducible refine And.intro (fun h => ?_) ?_) <;> (try (exfalso; omega))
          | ((with_reducible refine and_keep ?_ fun hk => ?_); omega)
          | (simp -dsimp -implicitDefEqProofs [*]))
    · have hN : standN l t = 1 := by simp_all [standN]
      have hL : standL l t = [] := by simp [standL, hN]
      repeat' (first
        | (with_reducible refine Fresh.intro fun b hb => ?_) <;> (try simp -dsimp -implicitDefEqProofs [*] at hb)
        | (with_reducible refine Rets.xcall (refCheck_spec _ _ _) ?_)
        | (with_reducible refine Rets.xsoft (refCheck_spec _ _ _) ?_)
        | (with_reducible refine xlateCall_of (fun _ => refCheck_spec _ _ _) ?_)
        | (with_reducible refine Rets.xcall (moment_spec ..) ?_)
        | (with_reducible refine Rets.xsoft (moment_spec ..) ?_)
        | (with_reducible refine xlateCall_of (fun _ => moment_spec ..) ?_)
        | (with_reducible refine Lit.imm ?_)
        | ((with_reducible refine Grow.intro ?_ fun b cap hb hc1 hc2 => ?_); omega) <;> (try simp -dsimp -implicitDefEqProofs [*] at hb)
        | (with_reducible refine RetView.nil2 ?_)
        | (with_reducible refine RetView.nil1 ?_)
        | (with_reducible refine RetView.loose2 (t := true) ?_)
        | (with_reducible refine RetView.loose1 (t := true) ?_)
        | (with_reducible refine RetView.fz 9 ?_ ?_)
        | (with_reducible refine RetView.same ?_)
        | (with_reducible refine DrawLate.intro [] ?_)
        | (with_reducible refine Cls_and ?_ ?_)
        | (with_reducible exact Cls.self _ _)
        | (with_reducible refine Cls_same ?_)
        | (with_reducible refine Cls_in ?_ ?_)
        | (with_reducible refine Cls_fresh ?_ ?_)
        | (with_reducible refine And.intro (fun h => ?_) (fun h => ?_)) <;> (try (exfalso; omega))
        | (with_reducible refine And.intro (fun h => ?_) ?_) <;> (try (exfalso; omega))
        | ((with_reducible refine and_keep ?_ fun hk => ?_); omega)
        | (simp -dsimp -implicitDefEqProofs [*]))
  · have hN : standN l t = checkE l := by simp_all [standN]
    have hL : standL l t = [] := by simp [standL, hN, hc]
    repeat' (first
      | (with_reducible refine Fresh.intro fun b hb => ?_) <;> (try simp -dsimp -implicitDefEqProofs [*] at hb)
      | (with_reducible refine Rets.xcall (refCheck_spec _ _ _) ?_)
      | (with_reducible refine Rets.xsoft (refCheck_spec _ _ _) ?_)
      | (with_reducible refine xlateCall_of (fun _ => refCheck_spec _ _ _) ?_)
      | (with_reducible refine Lit.imm ?_)
      | ((with_reducible refine Grow.intro ?_ fun b cap hb hc1 hc2 => ?_); omega) <;> (try simp -dsimp -implicitDefEqProofs [*] at hb)
      | (with_reducible refine RetView.nil2 ?_)
      | (with_reducible refine RetView.nil1 ?_)
      | (with_reducible refine RetView.loose2 (t := true) ?_)
      | (with_reducible refine RetView.loose1 (t := true) ?_)
      | (with_reducible refine RetView.fz 9 ?_ ?_)
      | (with_reducible refine RetView.same ?_)
      | (with_reducible refine DrawLate.intro [] ?_)
      | (with_reducible refine Cls_and ?_ ?_)
      | (with_reducible exact Cls.self _ _)
      | (with_reducible refine Cls_same ?_)
      | (with_reducible refine Cls_in ?_ ?_)
      | (with_reducible refine Cls_fresh ?_ ?_)
      | (with_reducible refine And.intro (fun h => ?_) (fun h => ?_)) <;> (try (exfalso; omega))
      | (with_reducible refine And.intro (fun h => ?_) ?_) <;> (try (exfalso; omega))
      | ((with_reducible refine and_keep ?_ fun hk => ?_); omega)
      | (simp -dsimp -implicitDefEqProofs [*]))
end Go.Proofs.Ytbjfmedpaohpnaa
