/- Check. -/
import Derived.Test.YthkjdppifnmakaaS51A
import Derived.Test.YthkjdppifnmakaaLVf
namespace Go.Proofs.Ythkjdppifnmakaa
open Go.Pv
set_option maxRecDepth 100000
/-- A record is right. -/
def ok (l : List Event) : Prop := (∀ e ∈ l, rightE e = true) ∧ l.Pairwise (fun a b => a.no < b.no)
instance (l : List Event) : Decidable (ok l) := inferInstanceAs (Decidable (_ ∧ _))
theorem ok_nil : ok [] := ⟨by simp, .nil⟩
theorem ok_take {l : List Event} (h : ok l) (i : Nat) : ok (l.take i) := ⟨fun e he => h.1 e (List.mem_of_mem_take he), h.2.sublist (List.take_sublist _ _)⟩
theorem ok_snoc {l : List Event} {i : Nat} (hi : i < l.length) (h : ok (l.take i)) : ok (l.take (i + 1)) ↔ rightE l[i] = true ∧ (0 < i → ∀ h : i - 1 < l.length, l[i - 1].no < l[i].no) := by
  have e : l.take (i + 1) = l.take i ++ [l[i]] := by rw [List.take_succ_eq_append_getElem hi]
  constructor
  · rintro ⟨h1, h2⟩
    refine ⟨h1 _ (by rw [e]; exact List.mem_append_right _ (by simp)), fun h0 hl => ?_⟩
    rw [e, List.pairwise_append] at h2
    refine h2.2.2 _ ?_ _ (by simp)
    rw [List.mem_iff_getElem]
    exact ⟨i - 1, by simp; omega, by simp⟩
  · rintro ⟨h1, h2⟩
    rw [e]
    refine ⟨fun x hx => ?_, ?_⟩
    · rcases List.mem_append.1 hx with hx | hx
      · exact h.1 x hx
      · simp at hx; subst hx; exact h1
    · rw [List.pairwise_append]
      refine ⟨h.2, by simp, fun x hx y hy => ?_⟩
      simp at hy; subst hy
      obtain ⟨j, hj, rfl⟩ := List.mem_iff_getElem.1 hx
      have hjl : j < i := by simp at hj; omega
      have h0 := h2 (by omega) (by omega)
      simp only [List.getElem_take]
      by_cases hji : j = i - 1
      · subst hji; exact h0
      · have := (List.pairwise_iff_getElem.1 h.2) j (i - 1) hj (by simp; omega) (by omega)
        simp only [List.getElem_take] at this
        omega
def checkE (l : List Event) : Int := if 4096 < l.length then 2 else if ok l then 0 else 490
theorem check_spec (t : Bool) (l : List Event) (st : Store) : Rets P F.record_Check [Event.lst t l] st (.int (checkE l)) := by
  refine H.record_Check.pure hmix rfl rfl ?_
  repeat' (first
    | (with_reducible refine Fresh.intro fun b hb => ?_) <;> (try simp -dsimp -implicitDefEqProofs [*] at hb)
    | (with_reducible refine Rets.xcall (kinds_spec _) ?_)
    | (with_reducible refine Rets.xsoft (kinds_spec _) ?_)
    | (with_reducible refine xlateCall_of (fun _ => kinds_spec _) ?_)
    | (with_reducible refine Lit.imm ?_)
    | ((with_reducible refine Grow.intro ?_ fun b cap hb hc1 hc2 => ?_); omega) <;> (try simp -dsimp -implicitDefEqProofs [*] at hb)
    | (with_reducible refine RetView.nil2 ?_)
    | (with_reducible refine RetView.nil1 ?_)
    | (with_reducible refine RetView.loose2 (t := true) ?_)
    | (with_reducible refine RetView.loose1 (t := true) ?_)
    | (with_reducible refine RetView.fz 1 ?_ ?_)
    | (with_reducible refine RetView.same ?_)
    | (with_reducible refine DrawLate.intro [] ?_)
    | (with_reducible refine Cls_and ?_ ?_)
    | (with_reducible exact Cls.self _ _)
    | (with_reducible refine Cls_same ?_)
    | (with_reducible refine Cls_in ?_ ?_)
    | (with_reducible refine Cls_fresh ?_ ?_)
    | (with_reducible refine And.intro (fun h => ?_) (fun h => ?_)) <;> (try (exfalso; omega))
    | (with_reducible refine And.intro (fun h => ?_) ?_) <;> (try (exfalso; omega))
    | ((with_reducible refine and_keep ?_ fun hk => ?_); omega)
    | (simp -dsimp -implicitDefEqProofs [*]))
  · simp [checkE]; omega
  · refine xloop_for (fun i => [(0, Event.lst t l), (3, pvKinds), (10, Event.lst t l), (11, .int l.length), (12, .int (i : Nat))]) (fun _ => st) (fun i => i ≤ l.length ∧ ok (l.take i)) (fun i => l.length - i) 0 ?_ ?_ ?_ ?_
    · exact ⟨Nat.zero_le _, by simpa using ok_nil⟩
    · simp
    · exact StLe.refl _
    rintro i ⟨hi, hok⟩
    have hw := wrap_succ (n := i) (by omega)
    have hw2 : IntKind.i64.wrap ((i : Int) - 1) = (i : Int) - 1 := wrap_in (by omega) (by omega)
    have ht : ((i : Int) - 1).toNat = i - 1 := by omega
    repeat' (first
      | (with_reducible refine Fresh.intro fun b hb => ?_) <;> (try simp -dsimp -implicitDefEqProofs [*] at hb)
      | (with_reducible refine Rets.xcall (right_spec _ _) ?_)
      | (with_reducible refine Rets.xsoft (right_spec _ _) ?_)
      | (with_reducible refine xlateCall_of (fun _ => right_spec _ _) ?_)
      | (with_reducible refine Lit.imm ?_)
      | ((with_reducible refine Grow.intro ?_ fun b cap hb hc1 hc2 => ?_); omega) <;> (try simp -dsimp -implicitDefEqProofs [*] at hb)
      | (with_reducible refine RetView.nil2 ?_)
      | (with_reducible refine RetView.nil1 ?_)
      | (with_reducible refine RetView.loose2 (t := true) ?_)
      | (with_reducible refine RetView.loose1 (t := true) ?_)
      | (with_reducible refine RetView.fz 1 ?_ ?_)
      | (with_reducible refine RetView.same ?_)
      | (with_reducible refine DrawLate.intro [] ?_)
      | (with_reducible refine Cls_and ?_ ?_)
      | (with_reducible exact Cls.self _ _)
      | (with_reducible refine Cls_same ?_)
      | (with_reducible refine Cls_in ?_ ?_)
      | (with_reducible refine Cls_fresh ?_ ?_)
      | (with_reducible refine And.intro (fun h => ?_) (fun h => ?_)) <;> (try (exfalso; omega))
      | (with_reducible refine And.intro (fun h => ?_) ?_) <;> (try (exfalso; omega))
      | ((with_reducible refine and_keep ?_ fun hk => ?_); omega)
      | (simp -dsimp -implicitDefEqProofs [*]))
    · have h2 : ¬ ok l := fun hl => by
        have := (ok_snoc ‹_› hok).1 (ok_take hl (i + 1))
        have := this.2 ‹_› ‹_›
        omega
      simp [checkE, h2]; omega
    · refine Next.intro (i + 1) ⟨by omega, (ok_snoc ‹_› hok).2 ⟨‹_›, fun _ _ => by omega⟩⟩ (by omega) ?_ (by simp [*])
      simp [hw]
    · subst i
      refine Next.intro 1 ⟨by omega, (ok_snoc ‹_› hok).2 ⟨‹_›, fun h => by omega⟩⟩ (by omega) ?_ (by simp [*])
      simp
    · have h2 : ¬ ok l := fun hl => by
        have := (ok_snoc ‹_› hok).1 (ok_take hl (i + 1))
        simp_all
      simp [checkE, h2]; omega
    · rw [List.take_of_length_le ‹_›] at hok
      simp [checkE, hok]; omega
end Go.Proofs.Ythkjdppifnmakaa
/- Appeals: small functions. -/
namespace Go.Proofs.Ythkjdppifnmakaa
open Go.Pv
set_option maxRecDepth 100000
def cmpI (a b : Int) : Int := if a < b then -1 else if b < a then 1 else 0
theorem isNaN_spec (a : Int) (st : Store) : Rets P F.cmp_isNaN__int [.int a] st (.bool false) := by
  refine H.cmp_isNaN__int.pure hmix rfl rfl ?_
  repeat' (first
    | (with_reducible refine Fresh.intro fun b hb => ?_) <;> (try simp -dsimp -implicitDefEqProofs [*] at hb)
    | (with_reducible refine Lit.imm ?_)
    | ((with_reducible refine Grow.intro ?_ fun b cap hb hc1 hc2 => ?_); omega) <;> (try simp -dsimp -implicitDefEqProofs [*] at hb)
    | (with_reducible refine RetView.nil2 ?_)
    | (with_reducible refine RetView.nil1 ?_)
    | (with_reducible refine RetView.loose2 (t := true) ?_)
    | (with_reducible refine RetView.loose1 (t := true) ?_)
    | (with_reducible refine RetView.fz 1 ?_ ?_)
    | (with_reducible refine RetView.same ?_)
    | (with_reducible refine DrawLate.intro [] ?_)
    | (with_reducible refine Cls_and ?_ ?_)
    | (with_reducible exact Cls.self _ _)
    | (with_reducible refine Cls_same ?_)
    | (with_reducible refine Cls_in ?_ ?_)
    | (with_reducible refine Cls_fresh ?_ ?_)
    | (with_reducible refine And.intro (fun h => ?_) (fun h => ?_)) <;> (try (exfalso; omega))
    | (with_reducible refine And.intro (fun h => ?_) ?_) <;> (try (exfalso; omega))
    | ((with_reducible refine and_keep ?_ fun hk => ?_); omega)
    | (simp -dsimp -implicitDefEqProofs [*]))
theorem cmp_spec (a b : Int) (st : Store) : Rets P F.cmp_Compare__int [.int a, .int b] st (.int (cmpI a b)) := by
  refine H.cmp_Compare__int.pure hmix rfl rfl ?_
  repeat' (first
    | (with_reducible refine Fresh.intro fun b hb => ?_) <;> (try simp -dsimp -implicitDefEqProofs [*] at hb)
    | (with_reducible refine Rets.xcall (isNaN_spec ..) ?_)
    | (with_reducible refine Rets.xsoft (isNaN_spec ..) ?_)
    | (with_reducible refine xlateCall_of (fun _ => isNaN_spec ..) ?_)
    | (with_reducible refine Lit.imm ?_)
    | ((with_reducible refine Grow.intro ?_ fun b cap hb hc1 hc2 => ?_); omega) <;> (try simp -dsimp -implicitDefEqProofs [*] at hb)
    | (with_reducible refine RetView.nil2 ?_)
    | (with_reducible refine RetView.nil1 ?_)
    | (with_reducible refine RetView.loose2 (t := true) ?_)
    | (with_reducible refine RetView.loose1 (t := true) ?_)
    | (with_reducible refine RetView.fz 1 ?_ ?_)
    | (with_reducible refine RetView.same ?_)
    | (with_reducible refine DrawLate.intro [] ?_)
    | (with_reducible refine Cls_and ?_ ?_)
    | (with_reducible exact Cls.self _ _)
    | (with_reducible refine Cls_same ?_)
    | (with_reducible refine Cls_in ?_ ?_)
    | (with_reducible refine Cls_fresh ?_ ?_)
    | (with_reducible refine And.intro (fun h => ?_) (fun h => ?_)) <;> (try (exfalso; omega))
    | (with_reducible refine And.intro (fun h => ?_) ?_) <;> (try (exfalso; omega))
    | ((with_reducible refine and_keep ?_ fun hk => ?_); omega)
    | (simp -dsimp -implicitDefEqProofs [*]))
  all_goals (unfold cmpI; grind)
theorem checkE_zero {l : List Event} : checkE l = 0 ↔ l.length ≤ 4096 ∧ ok l := by
  unfold checkE
  split
  · constructor <;> intro h <;> omega
  · split
    · constructor
      · intro _; exact ⟨by omega, by assumption⟩
      · intro _; rfl
    · constructor
      · intro h; omega
      · intro h; exact absurd h.2 (by assumption)
theorem ok_one (e : Event) : ok [e] ↔ rightE e = true := by simp [ok]
theorem checkE_one (e : Event) : checkE [e] = 0 ↔ rightE e = true := by
  rw [checkE_zero, ok_one]; simp
theorem one_row (t : Bool) (e : Event) : PV.list t e.enc 1 = Event.lst t [e] := by simp [Event.lst]
theorem valid_spec (e : Event) (st : Store) : Rets P F.appeals_valid [e.pv] st (.bool (rightE e)) := by
  refine H.appeals_valid.pure hmix rfl rfl ?_
  have h := checkE_one e
  have hb : decide (checkE [e] = 0) = rightE e := by rw [Bool.eq_iff_iff, decide_eq_true_eq, h]
  repeat' (first
    | (with_reducible refine Fresh.intro fun b hb => ?_) <;> (try simp -dsimp -implicitDefEqProofs [*] at hb)
    | (with_reducible refine Rets.xcall (check_spec _ [e] _) ?_)
    | (with_reducible refine Rets.xsoft (check_spec _ [e] _) ?_)
    | (with_reducible refine xlateCall_of (fun _ => check_spec _ [e] _) ?_)
    | (with_reducible refine Lit.imm ?_)
    | ((with_reducible refine Grow.intro ?_ fun b cap hb hc1 hc2 => ?_); omega) <;> (try simp -dsimp -implicitDefEqProofs [*] at hb)
    | (with_reducible refine RetView.nil2 ?_)
    | (with_reducible refine RetView.nil1 ?_)
    | (with_reducible refine RetView.loose2 (t := true) ?_)
    | (with_reducible refine RetView.loose1 (t := true) ?_)
    | (with_reducible refine RetView.fz 1 ?_ ?_)
    | (with_reducible refine RetView.same ?_)
    | (with_reducible refine DrawLate.intro [] ?_)
    | (with_reducible refine Cls_and ?_ ?_)
    | (with_reducible exact Cls.self _ _)
    | (with_reducible refine Cls_same ?_)
    | (with_reducible refine Cls_in ?_ ?_)
    | (with_reducible refine Cls_fresh ?_ ?_)
    | (with_reducible refine And.intro (fun h => ?_) (fun h => ?_)) <;> (try (exfalso; omega))
    | (with_reducible refine And.intro (fun h => ?_) ?_) <;> (try (exfalso; omega))
    | ((with_reducible refine and_keep ?_ fun hk => ?_); omega)
    | (simp -dsimp -implicitDefEqProofs [one_row, *]))
theorem refIn_spec (n lo hi : Int) (st : Store) : Rets P F.podiumref49_in [.int n, .int lo, .int hi] st (.bool (btw n lo hi)) := by
  refine H.podiumref49_in.pure hmix rfl rfl ?_
  simp -dsimp -implicitDefEqProofs
  simp [btw]; grind
theorem refRight_spec (e : Event) (st : Store) : Rets P F.podiumref49_Right [e.pv] st (.bool (rightE e)) := by
  refine H.podiumref49_Right.pure hmix rfl rfl ?_
  repeat' (first
    | (with_reducible refine Fresh.intro fun b hb => ?_) <;> (try simp -dsimp -implicitDefEqProofs [*] at hb)
    | (with_reducible refine Rets.xcall (refIn_spec ..) ?_)
    | (with_reducible refine Rets.xsoft (refIn_spec ..) ?_)
    | (with_reducible refine xlateCall_of (fun _ => refIn_spec ..) ?_)
    | (with_reducible refine Lit.imm ?_)
    | ((with_reducible refine Grow.intro ?_ fun b cap hb hc1 hc2 => ?_); omega) <;> (try simp -dsimp -implicitDefEqProofs [*] at hb)
    | (with_reducible refine RetView.nil2 ?_)
    | (with_reducible refine RetView.nil1 ?_)
    | (with_reducible refine RetView.loose2 (t := true) ?_)
    | (with_reducible refine RetView.loose1 (t := true) ?_)
    | (with_reducible refine RetView.fz 1 ?_ ?_)
    | (with_reducible refine RetView.same ?_)
    | (with_reducible refine DrawLate.intro [] ?_)
    | (with_reducible refine Cls_and ?_ ?_)
    | (with_reducible exact Cls.self _ _)
    | (with_reducible refine Cls_same ?_)
    | (with_reducible refine Cls_in ?_ ?_)
    | (with_reducible refine Cls_fresh ?_ ?_)
    | (with_reducible refine And.intro (fun h => ?_) (fun h => ?_)) <;> (try (exfalso; omega))
    | (with_reducible refine And.intro (fun h => ?_) ?_) <;> (try (exfalso; omega))
    | ((with_reducible refine and_keep ?_ fun hk => ?_); omega)
    | (simp -dsimp -implicitDefEqProofs [*]))
  all_goals (simp_all [rightE, itemOK]; try grind)
theorem check_no1 {l : List Event} {i : Nat} (hok : ok (l.take i)) (h : i < l.length) (hr : rightE l[i] = false) (hl : l.length ≤ 4096) : 490 = checkE l := by
  have h2 : ¬ ok l := fun hl => by
    have := (ok_snoc h hok).1 (ok_take hl (i + 1))
    rw [hr] at this; exact absurd this.1 (by simp)
  simp [checkE, h2]; omega
theorem check_no2 {l : List Event} {i : Nat} (hok : ok (l.take i)) (h : i < l.length) (h0 : 0 < i) (h1 : i - 1 < l.length) (hr : l[i].no ≤ l[i - 1].no) (hl : l.length ≤ 4096) : 490 = checkE l := by
  have h2 : ¬ ok l := fun hl => by
    have := (ok_snoc h hok).1 (ok_take hl (i + 1))
    have := this.2 h0 h1
    omega
  simp [checkE, h2]; omega
theorem refCheck_spec (t : Bool) (l : List Event) (st : Store) : Rets P F.podiumref49_Check [Event.lst t l] st (.int (checkE l)) := by
  refine H.podiumref49_Check.pure hmix rfl rfl ?_
  repeat' (first
    | (with_reducible refine Fresh.intro fun b hb => ?_) <;> (try simp -dsimp -implicitDefEqProofs [*] at hb)
    | (with_reducible refine Lit.imm ?_)
    | ((with_reducible refine Grow.intro ?_ fun b cap hb hc1 hc2 => ?_); omega) <;> (try simp -dsimp -implicitDefEqProofs [*] at hb)
    | (with_reducible refine RetView.nil2 ?_)
    | (with_reducible refine RetView.nil1 ?_)
    | (with_reducible refine RetView.loose2 (t := true) ?_)
    | (with_reducible refine RetView.loose1 (t := true) ?_)
    | (with_reducible refine RetView.fz 1 ?_ ?_)
    | (with_reducible refine RetView.same ?_)
    | (with_reducible refine DrawLate.intro [] ?_)
    | (with_reducible refine Cls_and ?_ ?_)
    | (with_reducible exact Cls.self _ _)
    | (with_reducible refine Cls_same ?_)
    | (with_reducible refine Cls_in ?_ ?_)
    | (with_reducible refine Cls_fresh ?_ ?_)
    | (with_reducible refine And.intro (fun h => ?_) (fun h => ?_)) <;> (try (exfalso; omega))
    | (with_reducible refine And.intro (fun h => ?_) ?_) <;> (try (exfalso; omega))
    | ((with_reducible refine and_keep ?_ fun hk => ?_); omega)
    | (simp -dsimp -implicitDefEqProofs [*]))
  · simp [checkE]; omega
  · refine xloop_for (fun i => [(0, Event.lst t l), (3, .int (i : Nat))]) (fun _ => st) (fun i => i ≤ l.length ∧ ok (l.take i)) (fun i => l.length - i) 0 ?_ ?_ ?_ ?_
    · exact ⟨Nat.zero_le _, by simpa using ok_nil⟩
    · simp
    · exact StLe.refl _
    rintro i ⟨hi, hok⟩
    have hw := wrap_succ (n := i) (by omega)
    have hw2 : IntKind.i64.wrap ((i : Int) - 1) = (i : Int) - 1 := wrap_in (by omega) (by omega)
    have ht : ((i : Int) - 1).toNat = i - 1 := by omega
    repeat' (first
      | (with_reducible refine Fresh.intro fun b hb => ?_) <;> (try simp -dsimp -implicitDefEqProofs [*] at hb)
      | (with_reducible refine Rets.xcall (refRight_spec _ _) ?_)
      | (with_reducible refine Rets.xsoft (refRight_spec _ _) ?_)
      | (with_reducible refine xlateCall_of (fun _ => refRight_spec _ _) ?_)
      | (with_reducible refine Lit.imm ?_)
      | ((with_reducible refine Grow.intro ?_ fun b cap hb hc1 hc2 => ?_); omega) <;> (try simp -dsimp -implicitDefEqProofs [*] at hb)
      | (with_reducible refine RetView.nil2 ?_)
      | (with_reducible refine RetView.nil1 ?_)
      | (with_reducible refine RetView.loose2 (t := true) ?_)
      | (with_reducible refine RetView.loose1 (t := true) ?_)
      | (with_reducible refine RetView.fz 1 ?_ ?_)
      | (with_reducible refine RetView.same ?_)
      | (with_reducible refine DrawLate.intro [] ?_)
      | (with_reducible refine Cls_and ?_ ?_)
      | (with_reducible exact Cls.self _ _)
      | (with_reducible refine Cls_same ?_)
      | (with_reducible refine Cls_in ?_ ?_)
      | (with_reducible refine Cls_fresh ?_ ?_)
      | (with_reducible refine And.intro (fun h => ?_) (fun h => ?_)) <;> (try (exfalso; omega))
      | (with_reducible refine And.intro (fun h => ?_) ?_) <;> (try (exfalso; omega))
      | ((with_reducible refine and_keep ?_ fun hk => ?_); omega)
      | (simp -dsimp -implicitDefEqProofs [*]))
    · exact check_no2 hok ‹_› ‹_› ‹_› ‹_› (by omega)
    · refine Next.intro (i + 1) ⟨by omega, (ok_snoc ‹_› hok).2 ⟨‹_›, fun _ _ => by omega⟩⟩ (by omega) ?_ (by simp)
      simp
    · subst i
      refine Next.intro 1 ⟨by omega, (ok_snoc ‹_› hok).2 ⟨‹_›, fun h => by omega⟩⟩ (by omega) ?_ (by simp)
      simp
    · exact check_no1 hok ‹_› ‹_› (by omega)
    · rw [List.take_of_length_le ‹_›] at hok
      simp [checkE, hok]; omega
theorem event_spec (e : Event) (st : Store) : Rets P F.podiumref51_event [e.pv] st (.bool (rightE e)) := by
  refine H.podiumref51_event.pure hmix rfl rfl ?_
  have h := checkE_one e
  have hb : decide (checkE [e] = 0) = rightE e := by rw [Bool.eq_iff_iff, decide_eq_true_eq, h]
  repeat' (first
    | (with_reducible refine Fresh.intro fun b hb => ?_) <;> (try simp -dsimp -implicitDefEqProofs [*] at hb)
    | (with_reducible refine Rets.xcall (refCheck_spec _ [e] _) ?_)
    | (with_reducible refine Rets.xsoft (refCheck_spec _ [e] _) ?_)
    | (with_reducible refine xlateCall_of (fun _ => refCheck_spec _ [e] _) ?_)
    | (with_reducible refine Lit.imm ?_)
    | ((with_reducible refine Grow.intro ?_ fun b cap hb hc1 hc2 => ?_); omega) <;> (try simp -dsimp -implicitDefEqProofs [*] at hb)
    | (with_reducible refine RetView.nil2 ?_)
    | (with_reducible refine RetView.nil1 ?_)
    | (with_reducible refine RetView.loose2 (t := true) ?_)
    | (with_reducible refine RetView.loose1 (t := true) ?_)
    | (with_reducible refine RetView.fz 1 ?_ ?_)
    | (with_reducible refine RetView.same ?_)
    | (with_reducible refine DrawLate.intro [] ?_)
    | (with_reducible refine Cls_and ?_ ?_)
    | (with_reducible exact Cls.self _ _)
    | (with_reducible refine Cls_same ?_)
    | (with_reducible refine Cls_in ?_ ?_)
    | (with_reducible refine Cls_fresh ?_ ?_)
    | (with_reducible refine And.intro (fun h => ?_) (fun h => ?_)) <;> (try (exfalso; omega))
    | (with_reducible refine And.intro (fun h => ?_) ?_) <;> (try (exfalso; omega))
    | ((with_reducible refine and_keep ?_ fun hk => ?_); omega)
    | (simp -dsimp -implicitDefEqProofs [one_row, *]))
abbrev zeroE : Event := ⟨0, 0, 0, 0, 0, 0, 0, 0, 0⟩
theorem zero_row : [PV.int 0, .int 0, .int 0, .int 0, .int 0, .int 0, .int 0, .int 0, .int 0] = zeroE.enc := rfl
def targetD (d : Decision) : Bool := decide (0 ≤ d.target) && decide (d.target ≤ 1048576) && decide (d.event = zeroE)
theorem target_spec (d : Decision) (st : Store) : Rets P F.appeals_target [d.pv] st (.bool (targetD d)) := by
  refine H.appeals_target.pure hmix rfl rfl ?_
  repeat' (first
    | (with_reducible refine Fresh.intro fun b hb => ?_) <;> (try simp -dsimp -implicitDefEqProofs [*] at hb)
    | (with_reducible refine Lit.imm ?_)
    | ((with_reducible refine Grow.intro ?_ fun b cap hb hc1 hc2 => ?_); omega) <;> (try simp -dsimp -implicitDefEqProofs [*] at hb)
    | (with_reducible refine RetView.nil2 ?_)
    | (with_reducible refine RetView.nil1 ?_)
    | (with_reducible refine RetView.loose2 (t := true) ?_)
    | (with_reducible refine RetView.loose1 (t := true) ?_)
    | (with_reducible refine RetView.fz 1 ?_ ?_)
    | (with_reducible refine RetView.same ?_)
    | (with_reducible refine DrawLate.intro [] ?_)
    | (with_reducible refine Cls_and ?_ ?_)
    | (with_reducible exact Cls.self _ _)
    | (with_reducible refine Cls_same ?_)
    | (with_reducible refine Cls_in ?_ ?_)
    | (with_reducible refine Cls_fresh ?_ ?_)
    | (with_reducible refine And.intro (fun h => ?_) (fun h => ?_)) <;> (try (exfalso; omega))
    | (with_reducible refine And.intro (fun h => ?_) ?_) <;> (try (exfalso; omega))
    | ((with_reducible refine and_keep ?_ fun hk => ?_); omega)
    | (simp -dsimp -implicitDefEqProofs [zero_row, *]))
  all_goals (try simp_all [targetD])
  all_goals (intros; omega)
def strikeD (d : Decision) : Bool := targetD d && decide (d.value = 0)
def alterD (d : Decision) : Bool := targetD d && decide (0 ≤ d.value) && decide (d.value ≤ 1000)
def addD (d : Decision) : Bool := decide (d.target = 0) && decide (d.value = 0) && rightE d.event
theorem kinds1a_spec (d : Decision) (st : Store) : Rets P F.appeals_kinds_1 [d.pv] st (.bool (strikeD d)) := by
  refine H.appeals_kinds_1.pure hmix rfl rfl ?_
  repeat' (first
    | (with_reducible refine Fresh.intro fun b hb => ?_) <;> (try simp -dsimp -implicitDefEqProofs [*] at hb)
    | (with_reducible refine Rets.xcall (target_spec _ _) ?_)
    | (with_reducible refine Rets.xsoft (target_spec _ _) ?_)
    | (with_reducible refine xlateCall_of (fun _ => target_spec _ _) ?_)
    | (with_reducible refine Lit.imm ?_)
    | ((with_reducible refine Grow.intro ?_ fun b cap hb hc1 hc2 => ?_); omega) <;> (try simp -dsimp -implicitDefEqProofs [*] at hb)
    | (with_reducible refine RetView.nil2 ?_)
    | (with_reducible refine RetView.nil1 ?_)
    | (with_reducible refine RetView.loose2 (t := true) ?_)
    | (with_reducible refine RetView.loose1 (t := true) ?_)
    | (with_reducible refine RetView.fz 1 ?_ ?_)
    | (with_reducible refine RetView.same ?_)
    | (with_reducible refine DrawLate.intro [] ?_)
    | (with_reducible refine Cls_and ?_ ?_)
    | (with_reducible exact Cls.self _ _)
    | (with_reducible refine Cls_same ?_)
    | (with_reducible refine Cls_in ?_ ?_)
    | (with_reducible refine Cls_fresh ?_ ?_)
    | (with_reducible refine And.intro (fun h => ?_) (fun h => ?_)) <;> (try (exfalso; omega))
    | (with_reducible refine And.intro (fun h => ?_) ?_) <;> (try (exfalso; omega))
    | ((with_reducible refine and_keep ?_ fun hk => ?_); omega)
    | (simp -dsimp -implicitDefEqProofs [*]))
  all_goals (simp_all [strikeD])
theorem kinds3a_spec (d : Decision) (st : Store) : Rets P F.appeals_kinds_3 [d.pv] st (.bool (alterD d)) := by
  refine H.appeals_kinds_3.pure hmix rfl rfl ?_
  repeat' (first
    | (with_reducible refine Fresh.intro fun b hb => ?_) <;> (try simp -dsimp -implicitDefEqProofs [*] at hb)
    | (with_reducible refine Rets.xcall (target_spec _ _) ?_)
    | (with_reducible refine Rets.xsoft (target_spec _ _) ?_)
    | (with_reducible refine xlateCall_of (fun _ => target_spec _ _) ?_)
    | (with_reducible refine Lit.imm ?_)
    | ((with_reducible refine Grow.intro ?_ fun b cap hb hc1 hc2 => ?_); omega) <;> (try simp -dsimp -implicitDefEqProofs [*] at hb)
    | (with_reducible refine RetView.nil2 ?_)
    | (with_reducible refine RetView.nil1 ?_)
    | (with_reducible refine RetView.loose2 (t := true) ?_)
    | (with_reducible refine RetView.loose1 (t := true) ?_)
    | (with_reducible refine RetView.fz 1 ?_ ?_)
    | (with_reducible refine RetView.same ?_)
    | (with_reducible refine DrawLate.intro [] ?_)
    | (with_reducible refine Cls_and ?_ ?_)
    | (with_reducible exact Cls.self _ _)
    | (with_reducible refine Cls_same ?_)
    | (with_reducible refine Cls_in ?_ ?_)
    | (with_reducible refine Cls_fresh ?_ ?_)
    | (with_reducible refine And.intro (fun h => ?_) (fun h => ?_)) <;> (try (exfalso; omega))
    | (with_reducible refine And.intro (fun h => ?_) ?_) <;> (try (exfalso; omega))
    | ((with_reducible refine and_keep ?_ fun hk => ?_); omega)
    | (simp -dsimp -implicitDefEqProofs [*]))
  all_goals (try simp_all [alterD])
  all_goals (intros; omega)
theorem kinds5a_spec (d : Decision) (st : Store) : Rets P F.appeals_kinds_5 [d.pv] st (.bool (addD d)) := by
  refine H.appeals_kinds_5.pure hmix rfl rfl ?_
  repeat' (first
    | (with_reducible refine Fresh.intro fun b hb => ?_) <;> (try simp -dsimp -implicitDefEqProofs [*] at hb)
    | (with_reducible refine Rets.xcall (valid_spec _ _) ?_)
    | (with_reducible refine Rets.xsoft (valid_spec _ _) ?_)
    | (with_reducible refine xlateCall_of (fun _ => valid_spec _ _) ?_)
    | (with_reducible refine Lit.imm ?_)
    | ((with_reducible refine Grow.intro ?_ fun b cap hb hc1 hc2 => ?_); omega) <;> (try simp -dsimp -implicitDefEqProofs [*] at hb)
    | (with_reducible refine RetView.nil2 ?_)
    | (with_reducible refine RetView.nil1 ?_)
    | (with_reducible refine RetView.loose2 (t := true) ?_)
    | (with_reducible refine RetView.loose1 (t := true) ?_)
    | (with_reducible refine RetView.fz 1 ?_ ?_)
    | (with_reducible refine RetView.same ?_)
    | (with_reducible refine DrawLate.intro [] ?_)
    | (with_reducible refine Cls_and ?_ ?_)
    | (with_reducible exact Cls.self _ _)
    | (with_reducible refine Cls_same ?_)
    | (with_reducible refine Cls_in ?_ ?_)
    | (with_reducible refine Cls_fresh ?_ ?_)
    | (with_reducible refine And.intro (fun h => ?_) (fun h => ?_)) <;> (try (exfalso; omega))
    | (with_reducible refine And.intro (fun h => ?_) ?_) <;> (try (exfalso; omega))
    | ((with_reducible refine and_keep ?_ fun hk => ?_); omega)
    | (simp -dsimp -implicitDefEqProofs [*]))
  all_goals (simp_all [addD])
abbrev fnv (f : FuncId) : PV := .func (.func f) [] []
def allKinds : List PV := [.val .nilFunc, .val .nilFunc, fnv F.appeals_kinds_1, fnv F.appeals_kinds_2, fnv F.appeals_kinds_3, fnv F.appeals_kinds_4, fnv F.appeals_kinds_5, fnv F.appeals_kinds_6]
theorem kindsA_spec (st : Store) : Rets P F.appeals_kinds [] st (.agg allKinds) := by
  refine H.appeals_kinds.view hmix rfl rfl ?_
  repeat' (first
    | (with_reducible refine Fresh.intro fun b hb => ?_) <;> (try simp -dsimp -implicitDefEqProofs [*] at hb)
    | (with_reducible refine Lit.imm ?_)
    | ((with_reducible refine Grow.intro ?_ fun b cap hb hc1 hc2 => ?_); omega) <;> (try simp -dsimp -implicitDefEqProofs [*] at hb)
    | (with_reducible refine RetView.nil2 ?_)
    | (with_reducible refine RetView.nil1 ?_)
    | (with_reducible refine RetView.loose2 (t := true) ?_)
    | (with_reducible refine RetView.loose1 (t := true) ?_)
    | (with_reducible refine RetView.fz 1 ?_ ?_)
    | (with_reducible refine RetView.same ?_)
    | (with_reducible refine DrawLate.intro [] ?_)
    | (with_reducible refine Cls_and ?_ ?_)
    | (with_reducible exact Cls.self _ _)
    | (with_reducible refine Cls_same ?_)
    | (with_reducible refine Cls_in ?_ ?_)
    | (with_reducible refine Cls_fresh ?_ ?_)
    | (with_reducible refine And.intro (fun h => ?_) (fun h => ?_)) <;> (try (exfalso; omega))
    | (with_reducible refine And.intro (fun h => ?_) ?_) <;> (try (exfalso; omega))
    | ((with_reducible refine and_keep ?_ fun hk => ?_); omega)
    | (simp -dsimp -implicitDefEqProofs [allKinds, *]))
end Go.Proofs.Ythkjdppifnmakaa
