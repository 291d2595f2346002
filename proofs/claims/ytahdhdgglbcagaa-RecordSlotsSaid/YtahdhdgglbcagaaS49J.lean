/- The laws' walks. -/
import Derived.Test.YtahdhdgglbcagaaS49I
namespace Go.Proofs.Ytahdhdgglbcagaa
open Go.Pv
set_option maxRecDepth 100000
set_option maxHeartbeats 4000000
theorem standL_len (l : List Event) (d t : Int) : (standL l d t).length ≤ l.length := by
  unfold standL
  split
  · exact List.length_filter_le _ _
  · simp
theorem few_len {l : List Event} (h : (decide (l.length ≤ 60) || decide (l.length > 4096) && decide (l.length ≤ 5000)) = true) : l.length ≤ 5000 := by
  simp at h; omega
theorem standingSpec_law (tt : Bool) (l : List Event) (d t : Int) (st : Store) : Rets P F.podiumlaw49_RecordStandingSpec [Event.lst tt l, .int d, .int t] st (.bool true) := by
  refine (H.podiumlaw49_RecordStandingSpec).pure hmix rfl rfl ?_
  cases hf : (decide (l.length ≤ 60) || decide (l.length > 4096) && decide (l.length ≤ 5000)) with
  | false =>
    have hfew : ∀ st, Rets P F.podiumref49_Few [Event.lst tt l] st (.bool false) := fun st => by rw [← hf]; exact few_spec ..
    clear hf
    repeat' (first
      | (with_reducible refine Fresh.intro fun b hb => ?_) <;> (try simp -dsimp -implicitDefEqProofs [*] at hb)
      | (with_reducible refine Rets.xcall (sane_spec _) ?_)
      | (with_reducible refine Rets.xsoft (sane_spec _) ?_)
      | (with_reducible refine xlateCall_of (fun _ => sane_spec _) ?_)
      | (with_reducible refine Rets.xcall (hfew _) ?_)
      | (with_reducible refine Rets.xsoft (hfew _) ?_)
      | (with_reducible refine xlateCall_of (fun _ => hfew _) ?_)
      | (with_reducible refine Lit.imm ?_)
      | ((with_reducible refine Grow.intro ?_ fun b cap hb hc1 hc2 => ?_); omega) <;> (try simp -dsimp -implicitDefEqProofs [*] at hb)
      | (with_reducible refine RetView.nil2 ?_)
      | (with_reducible refine RetView.nil1 ?_)
      | (with_reducible refine RetView.loose2 (t := true) ?_)
      | (with_reducible refine RetView.loose1 (t := true) ?_)
      | (with_reducible refine RetView.fz 1 ?_ ?_)
      | (with_reducible refine RetView.same ?_)
      | (with_reducible refine DrawLate.intro [] ?_)
      | (with_reducible refine Cls_and ?_ ?_)
      | (with_reducible exact Cls.self _ _)
      | (with_reducible refine Cls_same ?_)
      | (with_reducible refine Cls_in ?_ ?_)
      | (with_reducible refine Cls_fresh ?_ ?_)
      | (with_reducible refine And.intro (fun h => ?_) (fun h => ?_)) <;> (try (exfalso; omega))
      | (with_reducible refine And.intro (fun h => ?_) ?_) <;> (try (exfalso; omega))
      | ((with_reducible refine and_keep ?_ fun hk => ?_); omega)
      | (simp -dsimp -implicitDefEqProofs [*]))
  | true =>
    have hfew : ∀ st, Rets P F.podiumref49_Few [Event.lst tt l] st (.bool true) := fun st => by rw [← hf]; exact few_spec ..
    have hl := few_len hf
    have h2 := standL_len l d t
    have h3 : (standL l d t).length ≤ 100000 := by omega
    clear hf
    repeat' (first
      | (with_reducible refine Fresh.intro fun b hb => ?_) <;> (try simp -dsimp -implicitDefEqProofs [*] at hb)
      | (with_reducible refine Rets.xcall (sane_spec _) ?_)
      | (with_reducible refine Rets.xsoft (sane_spec _) ?_)
      | (with_reducible refine xlateCall_of (fun _ => sane_spec _) ?_)
      | (with_reducible refine Rets.xcall (hfew _) ?_)
      | (with_reducible refine Rets.xsoft (hfew _) ?_)
      | (with_reducible refine xlateCall_of (fun _ => hfew _) ?_)
      | (with_reducible refine Rets.xcall (standing_spec ..) ?_)
      | (with_reducible refine Rets.xsoft (standing_spec ..) ?_)
      | (with_reducible refine xlateCall_of (fun _ => standing_spec ..) ?_)
      | (with_reducible refine Rets.xcall (refStanding_spec ..) ?_)
      | (with_reducible refine Rets.xsoft (refStanding_spec ..) ?_)
      | (with_reducible refine xlateCall_of (fun _ => refStanding_spec ..) ?_)
      | (with_reducible refine Rets.xcall (same_l _ _ _ _ h3 rfl _) ?_)
      | (with_reducible refine Rets.xsoft (same_l _ _ _ _ h3 rfl _) ?_)
      | (with_reducible refine xlateCall_of (fun _ => same_l _ _ _ _ h3 rfl _) ?_)
      | (with_reducible refine Lit.imm ?_)
      | ((with_reducible refine Grow.intro ?_ fun b cap hb hc1 hc2 => ?_); omega) <;> (try simp -dsimp -implicitDefEqProofs [*] at hb)
      | (with_reducible refine RetView.nil2 ?_)
      | (with_reducible refine RetView.nil1 ?_)
      | (with_reducible refine RetView.loose2 (t := true) ?_)
      | (with_reducible refine RetView.loose1 (t := true) ?_)
      | (with_reducible refine RetView.fz 1 ?_ ?_)
      | (with_reducible refine RetView.same ?_)
      | (with_reducible refine DrawLate.intro [] ?_)
      | (with_reducible refine Cls_and ?_ ?_)
      | (with_reducible exact Cls.self _ _)
      | (with_reducible refine Cls_same ?_)
      | (with_reducible refine Cls_in ?_ ?_)
      | (with_reducible refine Cls_fresh ?_ ?_)
      | (with_reducible refine And.intro (fun h => ?_) (fun h => ?_)) <;> (try (exfalso; omega))
      | (with_reducible refine And.intro (fun h => ?_) ?_) <;> (try (exfalso; omega))
      | ((with_reducible refine and_keep ?_ fun hk => ?_); omega)
      | (simp -dsimp -implicitDefEqProofs [*]))
theorem addL_len (l : List Event) (x : Event) : (addL l x).length ≤ l.length + 1 := by
  unfold addL
  split
  · simp only [ins, List.length_append, List.length_take, List.length_cons, List.length_drop]; omega
  · simp
theorem spec_law (tt : Bool) (l : List Event) (x : Event) (st : Store) : Rets P F.podiumlaw49_RecordSpec [Event.lst tt l, x.pv] st (.bool true) := by
  refine (H.podiumlaw49_RecordSpec).pure hmix rfl rfl ?_
  cases hf : (decide (l.length ≤ 60) || decide (l.length > 4096) && decide (l.length ≤ 5000)) with
  | false =>
    have hfew : ∀ st, Rets P F.podiumref49_Few [Event.lst tt l] st (.bool false) := fun st => by rw [← hf]; exact few_spec ..
    clear hf
    repeat' (first
      | (with_reducible refine Fresh.intro fun b hb => ?_) <;> (try simp -dsimp -implicitDefEqProofs [*] at hb)
      | (with_reducible refine Rets.xcall (sane_spec _) ?_)
      | (with_reducible refine Rets.xsoft (sane_spec _) ?_)
      | (with_reducible refine xlateCall_of (fun _ => sane_spec _) ?_)
      | (with_reducible refine Rets.xcall (hfew _) ?_)
      | (with_reducible refine Rets.xsoft (hfew _) ?_)
      | (with_reducible refine xlateCall_of (fun _ => hfew _) ?_)
      | (with_reducible refine Lit.imm ?_)
      | ((with_reducible refine Grow.intro ?_ fun b cap hb hc1 hc2 => ?_); omega) <;> (try simp -dsimp -implicitDefEqProofs [*] at hb)
      | (with_reducible refine RetView.nil2 ?_)
      | (with_reducible refine RetView.nil1 ?_)
      | (with_reducible refine RetView.loose2 (t := true) ?_)
      | (with_reducible refine RetView.loose1 (t := true) ?_)
      | (with_reducible refine RetView.fz 1 ?_ ?_)
      | (with_reducible refine RetView.same ?_)
      | (with_reducible refine DrawLate.intro [] ?_)
      | (with_reducible refine Cls_and ?_ ?_)
      | (with_reducible exact Cls.self _ _)
      | (with_reducible refine Cls_same ?_)
      | (with_reducible refine Cls_in ?_ ?_)
      | (with_reducible refine Cls_fresh ?_ ?_)
      | (with_reducible refine And.intro (fun h => ?_) (fun h => ?_)) <;> (try (exfalso; omega))
      | (with_reducible refine And.intro (fun h => ?_) ?_) <;> (try (exfalso; omega))
      | ((with_reducible refine and_keep ?_ fun hk => ?_); omega)
      | (simp -dsimp -implicitDefEqProofs [*]))
  | true =>
    have hfew : ∀ st, Rets P F.podiumref49_Few [Event.lst tt l] st (.bool true) := fun st => by rw [← hf]; exact few_spec ..
    have hl := few_len hf
    have h2 := addL_len l x
    have h3 : (addL l x).length ≤ 100000 := by omega
    clear hf
    repeat' (first
      | (with_reducible refine Fresh.intro fun b hb => ?_) <;> (try simp -dsimp -implicitDefEqProofs [*] at hb)
      | (with_reducible refine Rets.xcall (sane_spec _) ?_)
      | (with_reducible refine Rets.xsoft (sane_spec _) ?_)
      | (with_reducible refine xlateCall_of (fun _ => sane_spec _) ?_)
      | (with_reducible refine Rets.xcall (hfew _) ?_)
      | (with_reducible refine Rets.xsoft (hfew _) ?_)
      | (with_reducible refine xlateCall_of (fun _ => hfew _) ?_)
      | (with_reducible refine Rets.xcall (add_spec ..) ?_)
      | (with_reducible refine Rets.xsoft (add_spec ..) ?_)
      | (with_reducible refine xlateCall_of (fun _ => add_spec ..) ?_)
      | (with_reducible refine Rets.xcall (refAdd_spec ..) ?_)
      | (with_reducible refine Rets.xsoft (refAdd_spec ..) ?_)
      | (with_reducible refine xlateCall_of (fun _ => refAdd_spec ..) ?_)
      | (with_reducible refine Rets.xcall (check_spec ..) ?_)
      | (with_reducible refine Rets.xsoft (check_spec ..) ?_)
      | (with_reducible refine xlateCall_of (fun _ => check_spec ..) ?_)
      | (with_reducible refine Rets.xcall (refCheck_spec ..) ?_)
      | (with_reducible refine Rets.xsoft (refCheck_spec ..) ?_)
      | (with_reducible refine xlateCall_of (fun _ => refCheck_spec ..) ?_)
      | (with_reducible refine Rets.xcall (same_l _ _ _ _ h3 rfl _) ?_)
      | (with_reducible refine Rets.xsoft (same_l _ _ _ _ h3 rfl _) ?_)
      | (with_reducible refine xlateCall_of (fun _ => same_l _ _ _ _ h3 rfl _) ?_)
      | (with_reducible refine Lit.imm ?_)
      | ((with_reducible refine Grow.intro ?_ fun b cap hb hc1 hc2 => ?_); omega) <;> (try simp -dsimp -implicitDefEqProofs [*] at hb)
      | (with_reducible refine RetView.nil2 ?_)
      | (with_reducible refine RetView.nil1 ?_)
      | (with_reducible refine RetView.loose2 (t := true) ?_)
      | (with_reducible refine RetView.loose1 (t := true) ?_)
      | (with_reducible refine RetView.fz 1 ?_ ?_)
      | (with_reducible refine RetView.same ?_)
      | (with_reducible refine DrawLate.intro [] ?_)
      | (with_reducible refine Cls_and ?_ ?_)
      | (with_reducible exact Cls.self _ _)
      | (with_reducible refine Cls_same ?_)
      | (with_reducible refine Cls_in ?_ ?_)
      | (with_reducible refine Cls_fresh ?_ ?_)
      | (with_reducible refine And.intro (fun h => ?_) (fun h => ?_)) <;> (try (exfalso; omega))
      | (with_reducible refine And.intro (fun h => ?_) ?_) <;> (try (exfalso; omega))
      | ((with_reducible refine and_keep ?_ fun hk => ?_); omega)
      | (simp -dsimp -implicitDefEqProofs [*]))
end Go.Proofs.Ytahdhdgglbcagaa
