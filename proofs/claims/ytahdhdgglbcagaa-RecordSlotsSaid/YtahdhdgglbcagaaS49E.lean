/- The reference's functions. -/
import Derived.Test.YtahdhdgglbcagaaS49D
namespace Go.Proofs.Ytahdhdgglbcagaa
open Go.Pv
set_option maxRecDepth 100000
theorem refIn_spec (n lo hi : Int) (st : Store) : Rets P F.podiumref49_in [.int n, .int lo, .int hi] st (.bool (btw n lo hi)) := by
  refine H.podiumref49_in.pure hmix rfl rfl ?_
  simp -dsimp -implicitDefEqProofs
  simp [btw]; grind
theorem refRight_spec (e : Event) (st : Store) : Rets P F.podiumref49_Right [e.pv] st (.bool (rightE e)) := by
  refine H.podiumref49_Right.pure hmix rfl rfl ?_
  repeat' (first
    | (with_reducible refine Fresh.intro fun b hb => ?_) <;> (try simp -dsimp -implicitDefEqProofs [*] at hb)
    | (with_reducible refine Rets.xcall (refIn_spec ..) ?_)
    | (with_reducible refine Rets.xsoft (refIn_spec ..) ?_)
    | (with_reducible refine xlateCall_of (fun _ => refIn_spec ..) ?_)
    | (with_reducible refine Lit.imm ?_)
    | ((with_reducible refine Grow.intro ?_ fun b cap hb hc1 hc2 => ?_); omega) <;> (try simp -dsimp -implicitDefEqProofs [*] at hb)
    | (with_reducible refine RetView.nil2 ?_)
    | (with_reducible refine RetView.nil1 ?_)
    | (with_reducible refine RetView.loose2 (t := true) ?_)
    | (with_reducible refine RetView.loose1 (t := true) ?_)
    | (with_reducible refine RetView.fz 1 ?_ ?_)
    | (with_reducible refine RetView.same ?_)
    | (with_reducible refine DrawLate.intro [] ?_)
    | (with_reducible refine Cls_and ?_ ?_)
    | (with_reducible exact Cls.self _ _)
    | (with_reducible refine Cls_same ?_)
    | (with_reducible refine Cls_in ?_ ?_)
    | (with_reducible refine Cls_fresh ?_ ?_)
    | (with_reducible refine And.intro (fun h => ?_) (fun h => ?_)) <;> (try (exfalso; omega))
    | (with_reducible refine And.intro (fun h => ?_) ?_) <;> (try (exfalso; omega))
    | ((with_reducible refine and_keep ?_ fun hk => ?_); omega)
    | (simp -dsimp -implicitDefEqProofs [*]))
  all_goals (simp_all [rightE, itemOK]; try grind)
theorem check_no1 {l : List Event} {i : Nat} (hok : ok (l.take i)) (h : i < l.length) (hr : rightE l[i] = false) (hl : l.length ≤ 4096) : 490 = checkE l := by
  have h2 : ¬ ok l := fun hl => by
    have := (ok_snoc h hok).1 (ok_take hl (i + 1))
    rw [hr] at this; exact absurd this.1 (by simp)
  simp [checkE, h2]; omega
theorem check_no2 {l : List Event} {i : Nat} (hok : ok (l.take i)) (h : i < l.length) (h0 : 0 < i) (h1 : i - 1 < l.length) (hr : l[i].no ≤ l[i - 1].no) (hl : l.length ≤ 4096) : 490 = checkE l := by
  have h2 : ¬ ok l := fun hl => by
    have := (ok_snoc h hok).1 (ok_take hl (i + 1))
    have := this.2 h0 h1
    omega
  simp [checkE, h2]; omega
theorem refCheck_spec (t : Bool) (l : List Event) (st : Store) : Rets P F.podiumref49_Check [Event.lst t l] st (.int (checkE l)) := by
  refine H.podiumref49_Check.pure hmix rfl rfl ?_
  repeat' (first
    | (with_reducible refine Fresh.intro fun b hb => ?_) <;> (try simp -dsimp -implicitDefEqProofs [*] at hb)
    | (with_reducible refine Lit.imm ?_)
    | ((with_reducible refine Grow.intro ?_ fun b cap hb hc1 hc2 => ?_); omega) <;> (try simp -dsimp -implicitDefEqProofs [*] at hb)
    | (with_reducible refine RetView.nil2 ?_)
    | (with_reducible refine RetView.nil1 ?_)
    | (with_reducible refine RetView.loose2 (t := true) ?_)
    | (with_reducible refine RetView.loose1 (t := true) ?_)
    | (with_reducible refine RetView.fz 1 ?_ ?_)
    | (with_reducible refine RetView.same ?_)
    | (with_reducible refine DrawLate.intro [] ?_)
    | (with_reducible refine Cls_and ?_ ?_)
    | (with_reducible exact Cls.self _ _)
    | (with_reducible refine Cls_same ?_)
    | (with_reducible refine Cls_in ?_ ?_)
    | (with_reducible refine Cls_fresh ?_ ?_)
    | (with_reducible refine And.intro (fun h => ?_) (fun h => ?_)) <;> (try (exfalso; omega))
    | (with_reducible refine And.intro (fun h => ?_) ?_) <;> (try (exfalso; omega))
    | ((with_reducible refine and_keep ?_ fun hk => ?_); omega)
    | (simp -dsimp -implicitDefEqProofs [*]))
  · simp [checkE]; omega
  · refine xloop_for (fun i => [(0, Event.lst t l), (3, .int (i : Nat))]) (fun _ => st) (fun i => i ≤ l.length ∧ ok (l.take i)) (fun i => l.length - i) 0 ?_ ?_ ?_ ?_
    · exact ⟨Nat.zero_le _, by simpa using ok_nil⟩
    · simp
    · exact StLe.refl _
    rintro i ⟨hi, hok⟩
    have hw := wrap_succ (n := i) (by omega)
    have hw2 : IntKind.i64.wrap ((i : Int) - 1) = (i : Int) - 1 := wrap_in (by omega) (by omega)
    have ht : ((i : Int) - 1).toNat = i - 1 := by omega
    repeat' (first
      | (with_reducible refine Fresh.intro fun b hb => ?_) <;> (try simp -dsimp -implicitDefEqProofs [*] at hb)
      | (with_reducible refine Rets.xcall (refRight_spec _ _) ?_)
      | (with_reducible refine Rets.xsoft (refRight_spec _ _) ?_)
      | (with_reducible refine xlateCall_of (fun _ => refRight_spec _ _) ?_)
      | (with_reducible refine Lit.imm ?_)
      | ((with_reducible refine Grow.intro ?_ fun b cap hb hc1 hc2 => ?_); omega) <;> (try simp -dsimp -implicitDefEqProofs [*] at hb)
      | (with_reducible refine RetView.nil2 ?_)
      | (with_reducible refine RetView.nil1 ?_)
      | (with_reducible refine RetView.loose2 (t := true) ?_)
      | (with_reducible refine RetView.loose1 (t := true) ?_)
      | (with_reducible refine RetView.fz 1 ?_ ?_)
      | (with_reducible refine RetView.same ?_)
      | (with_reducible refine DrawLate.intro [] ?_)
      | (with_reducible refine Cls_and ?_ ?_)
      | (with_reducible exact Cls.self _ _)
      | (with_reducible refine Cls_same ?_)
      | (with_reducible refine Cls_in ?_ ?_)
      | (with_reducible refine Cls_fresh ?_ ?_)
      | (with_reducible refine And.intro (fun h => ?_) (fun h => ?_)) <;> (try (exfalso; omega))
      | (with_reducible refine And.intro (fun h => ?_) ?_) <;> (try (exfalso; omega))
      | ((with_reducible refine and_keep ?_ fun hk => ?_); omega)
      | (simp -dsimp -implicitDefEqProofs [*]))
    · exact check_no2 hok ‹_› ‹_› ‹_› ‹_› (by omega)
    · refine Next.intro (i + 1) ⟨by omega, (ok_snoc ‹_› hok).2 ⟨‹_›, fun _ _ => by omega⟩⟩ (by omega) ?_ (by simp)
      simp
    · subst i
      refine Next.intro 1 ⟨by omega, (ok_snoc ‹_› hok).2 ⟨‹_›, fun h => by omega⟩⟩ (by omega) ?_ (by simp)
      simp
    · exact check_no1 hok ‹_› ‹_› (by omega)
    · rw [List.take_of_length_le ‹_›] at hok
      simp [checkE, hok]; omega
def sameSlot (a b : Event) : Bool := decide (a.kind = b.kind) && decide (a.round = b.round) && decide (a.entry = b.entry) && decide (a.judge = b.judge) && decide (a.item = b.item)
theorem slot_spec (a b : Event) (st : Store) : Rets P F.podiumref49_Slot [a.pv, b.pv] st (.bool (sameSlot a b)) := by
  refine H.podiumref49_Slot.pure hmix rfl rfl ?_
  repeat' (first
    | (with_reducible refine Fresh.intro fun b hb => ?_) <;> (try simp -dsimp -implicitDefEqProofs [*] at hb)
    | (with_reducible refine Lit.imm ?_)
    | ((with_reducible refine Grow.intro ?_ fun b cap hb hc1 hc2 => ?_); omega) <;> (try simp -dsimp -implicitDefEqProofs [*] at hb)
    | (with_reducible refine RetView.nil2 ?_)
    | (with_reducible refine RetView.nil1 ?_)
    | (with_reducible refine RetView.loose2 (t := true) ?_)
    | (with_reducible refine RetView.loose1 (t := true) ?_)
    | (with_reducible refine RetView.fz 1 ?_ ?_)
    | (with_reducible refine RetView.same ?_)
    | (with_reducible refine DrawLate.intro [] ?_)
    | (with_reducible refine Cls_and ?_ ?_)
    | (with_reducible exact Cls.self _ _)
    | (with_reducible refine Cls_same ?_)
    | (with_reducible refine Cls_in ?_ ?_)
    | (with_reducible refine Cls_fresh ?_ ?_)
    | (with_reducible refine And.intro (fun h => ?_) (fun h => ?_)) <;> (try (exfalso; omega))
    | (with_reducible refine And.intro (fun h => ?_) ?_) <;> (try (exfalso; omega))
    | ((with_reducible refine and_keep ?_ fun hk => ?_); omega)
    | (simp -dsimp -implicitDefEqProofs [*]))
  all_goals (simp_all [sameSlot]; try grind)
def counts (e : Event) (d t : Int) : Bool := decide (e.at' ≤ d) && decide (e.known ≤ t)
theorem counts_spec (a : Event) (d t : Int) (st : Store) : Rets P F.podiumref49_Counts [a.pv, .int d, .int t] st (.bool (counts a d t)) := by
  refine H.podiumref49_Counts.pure hmix rfl rfl ?_
  repeat' (first
    | (with_reducible refine Fresh.intro fun b hb => ?_) <;> (try simp -dsimp -implicitDefEqProofs [*] at hb)
    | (with_reducible refine Lit.imm ?_)
    | ((with_reducible refine Grow.intro ?_ fun b cap hb hc1 hc2 => ?_); omega) <;> (try simp -dsimp -implicitDefEqProofs [*] at hb)
    | (with_reducible refine RetView.nil2 ?_)
    | (with_reducible refine RetView.nil1 ?_)
    | (with_reducible refine RetView.loose2 (t := true) ?_)
    | (with_reducible refine RetView.loose1 (t := true) ?_)
    | (with_reducible refine RetView.fz 1 ?_ ?_)
    | (with_reducible refine RetView.same ?_)
    | (with_reducible refine DrawLate.intro [] ?_)
    | (with_reducible refine Cls_and ?_ ?_)
    | (with_reducible exact Cls.self _ _)
    | (with_reducible refine Cls_same ?_)
    | (with_reducible refine Cls_in ?_ ?_)
    | (with_reducible refine Cls_fresh ?_ ?_)
    | (with_reducible refine And.intro (fun h => ?_) (fun h => ?_)) <;> (try (exfalso; omega))
    | (with_reducible refine And.intro (fun h => ?_) ?_) <;> (try (exfalso; omega))
    | ((with_reducible refine and_keep ?_ fun hk => ?_); omega)
    | (simp -dsimp -implicitDefEqProofs [*]))
  all_goals (simp_all [counts]; try grind)
def later (a b : Event) : Bool := decide (a.at' > b.at') || decide (a.at' = b.at') && decide (a.no > b.no)
theorem later_spec (a b : Event) (st : Store) : Rets P F.podiumref49_Later [a.pv, b.pv] st (.bool (later a b)) := by
  refine H.podiumref49_Later.pure hmix rfl rfl ?_
  repeat' (first
    | (with_reducible refine Fresh.intro fun b hb => ?_) <;> (try simp -dsimp -implicitDefEqProofs [*] at hb)
    | (with_reducible refine Lit.imm ?_)
    | ((with_reducible refine Grow.intro ?_ fun b cap hb hc1 hc2 => ?_); omega) <;> (try simp -dsimp -implicitDefEqProofs [*] at hb)
    | (with_reducible refine RetView.nil2 ?_)
    | (with_reducible refine RetView.nil1 ?_)
    | (with_reducible refine RetView.loose2 (t := true) ?_)
    | (with_reducible refine RetView.loose1 (t := true) ?_)
    | (with_reducible refine RetView.fz 1 ?_ ?_)
    | (with_reducible refine RetView.same ?_)
    | (with_reducible refine DrawLate.intro [] ?_)
    | (with_reducible refine Cls_and ?_ ?_)
    | (with_reducible exact Cls.self _ _)
    | (with_reducible refine Cls_same ?_)
    | (with_reducible refine Cls_in ?_ ?_)
    | (with_reducible refine Cls_fresh ?_ ?_)
    | (with_reducible refine And.intro (fun h => ?_) (fun h => ?_)) <;> (try (exfalso; omega))
    | (with_reducible refine And.intro (fun h => ?_) ?_) <;> (try (exfalso; omega))
    | ((with_reducible refine and_keep ?_ fun hk => ?_); omega)
    | (simp -dsimp -implicitDefEqProofs [*]))
  all_goals (simp_all [later]; try grind)
theorem few_spec (t : Bool) (l : List Event) (st : Store) : Rets P F.podiumref49_Few [Event.lst t l] st (.bool (decide (l.length ≤ 60) || decide (l.length > 4096) && decide (l.length ≤ 5000))) := by
  refine H.podiumref49_Few.pure hmix rfl rfl ?_
  repeat' (first
    | (with_reducible refine Fresh.intro fun b hb => ?_) <;> (try simp -dsimp -implicitDefEqProofs [*] at hb)
    | (with_reducible refine Lit.imm ?_)
    | ((with_reducible refine Grow.intro ?_ fun b cap hb hc1 hc2 => ?_); omega) <;> (try simp -dsimp -implicitDefEqProofs [*] at hb)
    | (with_reducible refine RetView.nil2 ?_)
    | (with_reducible refine RetView.nil1 ?_)
    | (with_reducible refine RetView.loose2 (t := true) ?_)
    | (with_reducible refine RetView.loose1 (t := true) ?_)
    | (with_reducible refine RetView.fz 1 ?_ ?_)
    | (with_reducible refine RetView.same ?_)
    | (with_reducible refine DrawLate.intro [] ?_)
    | (with_reducible refine Cls_and ?_ ?_)
    | (with_reducible exact Cls.self _ _)
    | (with_reducible refine Cls_same ?_)
    | (with_reducible refine Cls_in ?_ ?_)
    | (with_reducible refine Cls_fresh ?_ ?_)
    | (with_reducible refine And.intro (fun h => ?_) (fun h => ?_)) <;> (try (exfalso; omega))
    | (with_reducible refine And.intro (fun h => ?_) ?_) <;> (try (exfalso; omega))
    | ((with_reducible refine and_keep ?_ fun hk => ?_); omega)
    | (simp -dsimp -implicitDefEqProofs [*]))
  all_goals grind
theorem same_spec (ta tb : Bool) (a b : List Event) (hl : a.length ≤ 100000) (st : Store) : Rets P F.podiumref49_Same [Event.lst ta a, Event.lst tb b] st (.bool (decide (a = b))) := by
  refine H.podiumref49_Same.pure hmix rfl rfl ?_
  repeat' (first
    | (with_reducible refine Fresh.intro fun b hb => ?_) <;> (try simp -dsimp -implicitDefEqProofs [*] at hb)
    | (with_reducible refine Lit.imm ?_)
    | ((with_reducible refine Grow.intro ?_ fun b cap hb hc1 hc2 => ?_); omega) <;> (try simp -dsimp -implicitDefEqProofs [*] at hb)
    | (with_reducible refine RetView.nil2 ?_)
    | (with_reducible refine RetView.nil1 ?_)
    | (with_reducible refine RetView.loose2 (t := true) ?_)
    | (with_reducible refine RetView.loose1 (t := true) ?_)
    | (with_reducible refine RetView.fz 1 ?_ ?_)
    | (with_reducible refine RetView.same ?_)
    | (with_reducible refine DrawLate.intro [] ?_)
    | (with_reducible refine Cls_and ?_ ?_)
    | (with_reducible exact Cls.self _ _)
    | (with_reducible refine Cls_same ?_)
    | (with_reducible refine Cls_in ?_ ?_)
    | (with_reducible refine Cls_fresh ?_ ?_)
    | (with_reducible refine And.intro (fun h => ?_) (fun h => ?_)) <;> (try (exfalso; omega))
    | (with_reducible refine And.intro (fun h => ?_) ?_) <;> (try (exfalso; omega))
    | ((with_reducible refine and_keep ?_ fun hk => ?_); omega)
    | (simp -dsimp -implicitDefEqProofs [*]))
  · refine xloop_for (fun i => [(0, Event.lst ta a), (1, Event.lst tb b), (5, .int (i : Nat))]) (fun _ => st) (fun i => i ≤ a.length ∧ a.take i = b.take i) (fun i => a.length - i) 0 ?_ ?_ ?_ ?_
    · simp
    · simp
    · simp
    rintro i ⟨hi, hp⟩
    have hw := wrap_succ (n := i) (by omega)
    repeat' (first
      | (with_reducible refine Fresh.intro fun b hb => ?_) <;> (try simp -dsimp -implicitDefEqProofs [*] at hb)
      | (with_reducible refine Lit.imm ?_)
      | ((with_reducible refine Grow.intro ?_ fun b cap hb hc1 hc2 => ?_); omega) <;> (try simp -dsimp -implicitDefEqProofs [*] at hb)
      | (with_reducible refine RetView.nil2 ?_)
      | (with_reducible refine RetView.nil1 ?_)
      | (with_reducible refine RetView.loose2 (t := true) ?_)
      | (with_reducible refine RetView.loose1 (t := true) ?_)
      | (with_reducible refine RetView.fz 1 ?_ ?_)
      | (with_reducible refine RetView.same ?_)
      | (with_reducible refine DrawLate.intro [] ?_)
      | (with_reducible refine Cls_and ?_ ?_)
      | (with_reducible exact Cls.self _ _)
      | (with_reducible refine Cls_same ?_)
      | (with_reducible refine Cls_in ?_ ?_)
      | (with_reducible refine Cls_fresh ?_ ?_)
      | (with_reducible refine And.intro (fun h => ?_) (fun h => ?_)) <;> (try (exfalso; omega))
      | (with_reducible refine And.intro (fun h => ?_) ?_) <;> (try (exfalso; omega))
      | ((with_reducible refine and_keep ?_ fun hk => ?_); omega)
      | (simp -dsimp -implicitDefEqProofs [*]))
    · rename_i e
      refine Next.intro (i + 1) ⟨by omega, ?_⟩ (by omega) (by simp) (by simp)
      rw [List.take_succ_eq_append_getElem (by omega), List.take_succ_eq_append_getElem (by omega), hp]
      simp_all
    · rintro rfl; exact ‹¬ _› rfl
    · have h1 := List.take_of_length_le (l := a) (i := i) (by omega)
      have h2 := List.take_of_length_le (l := b) (i := i) (by omega)
      rw [← h1, hp, h2]
  · rintro rfl; omega
theorem all_snoc {α : Type} (f : α → Bool) (l : List α) (i : Nat) (h : i < l.length) : (l.take (i + 1)).all f = ((l.take i).all f && f l[i]) := by
  rw [List.take_succ_eq_append_getElem h, List.all_append]; simp
def stands (l : List Event) (x : Event) (d t : Int) : Bool := counts x d t && l.all fun y => !(sameSlot y x && counts y d t && later y x)
theorem stands_spec (tt : Bool) (l : List Event) (hl : l.length ≤ 100000) (x : Event) (d t : Int) (st : Store) : Rets P F.podiumref49_Stands [Event.lst tt l, x.pv, .int d, .int t] st (.bool (stands l x d t)) := by
  refine H.podiumref49_Stands.pure hmix rfl rfl ?_
  repeat' (first
    | (with_reducible refine Fresh.intro fun b hb => ?_) <;> (try simp -dsimp -implicitDefEqProofs [*] at hb)
    | (with_reducible refine Lit.imm ?_)
    | ((with_reducible refine Grow.intro ?_ fun b cap hb hc1 hc2 => ?_); omega) <;> (try simp -dsimp -implicitDefEqProofs [*] at hb)
    | (with_reducible refine RetView.nil2 ?_)
    | (with_reducible refine RetView.nil1 ?_)
    | (with_reducible refine RetView.loose2 (t := true) ?_)
    | (with_reducible refine RetView.loose1 (t := true) ?_)
    | (with_reducible refine RetView.fz 1 ?_ ?_)
    | (with_reducible refine RetView.same ?_)
    | (with_reducible refine DrawLate.intro [] ?_)
    | (with_reducible refine Cls_and ?_ ?_)
    | (with_reducible exact Cls.self _ _)
    | (with_reducible refine Cls_same ?_)
    | (with_reducible refine Cls_in ?_ ?_)
    | (with_reducible refine Cls_fresh ?_ ?_)
    | (with_reducible refine And.intro (fun h => ?_) (fun h => ?_)) <;> (try (exfalso; omega))
    | (with_reducible refine And.intro (fun h => ?_) ?_) <;> (try (exfalso; omega))
    | ((with_reducible refine and_keep ?_ fun hk => ?_); omega)
    | (simp -dsimp -implicitDefEqProofs [*]))
  refine xloop_for (fun i => [(0, Event.lst tt l), (2, .int d), (3, .int t), (5, .ptr b 0), (9, .int (i : Nat))]) (fun _ => (b, .arr T.apiEvent x.enc) :: st) (fun i => i ≤ l.length ∧ ((l.take i).all fun y => !(sameSlot y x && counts y d t && later y x)) = true) (fun i => l.length - i) 0 ?_ ?_ ?_ ?_
  · simp
  · simp
  · simp
  rintro i ⟨hi, hp⟩
  have hw := wrap_succ (n := i) (by omega)
  repeat' (first
    | (with_reducible refine Fresh.intro fun b hb => ?_) <;> (try simp -dsimp -implicitDefEqProofs [*] at hb)
    | (with_reducible refine Rets.xcall (slot_spec _ _ _) ?_)
    | (with_reducible refine Rets.xsoft (slot_spec _ _ _) ?_)
    | (with_reducible refine xlateCall_of (fun _ => slot_spec _ _ _) ?_)
    | (with_reducible refine Rets.xcall (counts_spec _ _ _ _) ?_)
    | (with_reducible refine Rets.xsoft (counts_spec _ _ _ _) ?_)
    | (with_reducible refine xlateCall_of (fun _ => counts_spec _ _ _ _) ?_)
    | (with_reducible refine Rets.xcall (later_spec _ _ _) ?_)
    | (with_reducible refine Rets.xsoft (later_spec _ _ _) ?_)
    | (with_reducible refine xlateCall_of (fun _ => later_spec _ _ _) ?_)
    | (with_reducible refine Lit.imm ?_)
    | ((with_reducible refine Grow.intro ?_ fun b cap hb hc1 hc2 => ?_); omega) <;> (try simp -dsimp -implicitDefEqProofs [*] at hb)
    | (with_reducible refine RetView.nil2 ?_)
    | (with_reducible refine RetView.nil1 ?_)
    | (with_reducible refine RetView.loose2 (t := true) ?_)
    | (with_reducible refine RetView.loose1 (t := true) ?_)
    | (with_reducible refine RetView.fz 1 ?_ ?_)
    | (with_reducible refine RetView.same ?_)
    | (with_reducible refine DrawLate.intro [] ?_)
    | (with_reducible refine Cls_and ?_ ?_)
    | (with_reducible exact Cls.self _ _)
    | (with_reducible refine Cls_same ?_)
    | (with_reducible refine Cls_in ?_ ?_)
    | (with_reducible refine Cls_fresh ?_ ?_)
    | (with_reducible refine And.intro (fun h => ?_) (fun h => ?_)) <;> (try (exfalso; omega))
    | (with_reducible refine And.intro (fun h => ?_) ?_) <;> (try (exfalso; omega))
    | ((with_reducible refine and_keep ?_ fun hk => ?_); omega)
    | (simp -dsimp -implicitDefEqProofs [*]))
  · have : ¬ (l.all fun y => !(sameSlot y x && counts y d t && later y x)) = true := fun h => by
      have := List.all_eq_true.1 h _ (List.getElem_mem ‹i < l.length›)
      simp_all
    rw [stands, Bool.eq_false_iff.2 this, Bool.and_false]
  · exact Next.intro (i + 1) ⟨by omega, by rw [all_snoc _ _ _ ‹_›, hp]; simp_all⟩ (by omega) (by simp) (by simp)
  · exact Next.intro (i + 1) ⟨by omega, by rw [all_snoc _ _ _ ‹_›, hp]; simp_all⟩ (by omega) (by simp) (by simp)
  · exact Next.intro (i + 1) ⟨by omega, by rw [all_snoc _ _ _ ‹_›, hp]; simp_all⟩ (by omega) (by simp) (by simp)
  · rw [List.take_of_length_le (by omega)] at hp
    rw [stands, hp, Bool.and_true]
end Go.Proofs.Ytahdhdgglbcagaa
