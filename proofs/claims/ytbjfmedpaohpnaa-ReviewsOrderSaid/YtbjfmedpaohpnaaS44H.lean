/- The laws that compare with the reference. -/
import Derived.Test.YtbjfmedpaohpnaaS44G
namespace Go.Proofs.Ytbjfmedpaohpnaa
open Go.Pv
set_option maxRecDepth 100000
set_option maxHeartbeats 4000000
theorem standL_len (l : List Review) (t : Int) : (standL l t).length ≤ l.length := by
  unfold standL
  split
  · exact List.length_filter_le _ _
  · simp
theorem openL_len (l : List Review) (no f t : Int) : (openL l no f t).length ≤ l.length + 1 := by
  unfold openL
  split
  · simp only [ins, List.length_append, List.length_take, List.length_cons, List.length_drop]; omega
  · simp
theorem closeL_len (l : List Review) (no t v : Int) : (closeL l no t v).length ≤ l.length := by
  unfold closeL
  split
  · split <;> simp
  · simp
theorem few_len {l : List Review} (h : (decide (l.length ≤ 30) || decide (1000 ≤ l.length) && decide (l.length ≤ 1100)) = true) : l.length ≤ 1100 := by
  simp at h; omega
theorem spec_law (tt : Bool) (l : List Review) (hf : ∀ e ∈ l, fit e) (t : Int) (st : Store) : Rets P F.podiumlaw44_ReviewsSpec [Review.lst tt l, .int t] st (.bool true) := by
  refine (H.podiumlaw44_ReviewsSpec).pure hmix rfl rfl ?_
  cases hfe : (decide (l.length ≤ 30) || decide (1000 ≤ l.length) && decide (l.length ≤ 1100)) with
  | false =>
    have hfew : ∀ st, Rets P F.podiumref44_Few [Review.lst tt l] st (.bool false) := fun st => by rw [← hfe]; exact few_spec ..
    clear hfe
    repeat' (first
      | (with_reducible refine Fresh.intro fun b hb => ?_) <;> (try simp -dsimp -implicitDefEqProofs [*] at hb)
      | (with_reducible refine Rets.xcall (sane_spec _) ?_)
      | (with_reducible refine Rets.xsoft (sane_spec _) ?_)
      | (with_reducible refine xlateCall_of (fun _ => sane_spec _) ?_)
      | (with_reducible refine Rets.xcall (hfew _) ?_)
      | (with_reducible refine Rets.xsoft (hfew _) ?_)
      | (with_reducible refine xlateCall_of (fun _ => hfew _) ?_)
      | (with_reducible refine Lit.imm ?_)
      | ((with_reducible refine Grow.intro ?_ fun b cap hb hc1 hc2 => ?_); omega) <;> (try simp -dsimp -implicitDefEqProofs [*] at hb)
      | (with_reducible refine RetView.nil2 ?_)
      | (with_reducible refine RetView.nil1 ?_)
      | (with_reducible refine RetView.loose2 (t := true) ?_)
      | (with_reducible refine RetView.loose1 (t := true) ?_)
      | (with_reducible refine RetView.fz 1 ?_ ?_)
      | (with_reducible refine RetView.same ?_)
      | (with_reducible refine DrawLate.intro [] ?_)
      | (with_reducible refine Cls_and ?_ ?_)
      | (with_reducible exact Cls.self _ _)
      | (with_reducible refine Cls_same ?_)
      | (with_reducible refine Cls_in ?_ ?_)
      | (with_reducible refine Cls_fresh ?_ ?_)
      | (with_reducible refine And.intro (fun h => ?_) (fun h => ?_)) <;> (try (exfalso; omega))
      | (with_reducible refine And.intro (fun h => ?_) ?_) <;> (try (exfalso; omega))
      | ((with_reducible refine and_keep ?_ fun hk => ?_); omega)
      | (simp -dsimp -implicitDefEqProofs [*]))
  | true =>
    have hfew : ∀ st, Rets P F.podiumref44_Few [Review.lst tt l] st (.bool true) := fun st => by rw [← hfe]; exact few_spec ..
    have hl := few_len hfe
    have h2 := standL_len l t
    have h3 : (standL l t).length ≤ 100000 := by omega
    clear hfe
    repeat' (first
      | (with_reducible refine Fresh.intro fun b hb => ?_) <;> (try simp -dsimp -implicitDefEqProofs [*] at hb)
      | (with_reducible refine Rets.xcall (sane_spec _) ?_)
      | (with_reducible refine Rets.xsoft (sane_spec _) ?_)
      | (with_reducible refine xlateCall_of (fun _ => sane_spec _) ?_)
      | (with_reducible refine Rets.xcall (hfew _) ?_)
      | (with_reducible refine Rets.xsoft (hfew _) ?_)
      | (with_reducible refine xlateCall_of (fun _ => hfew _) ?_)
      | (with_reducible refine Rets.xcall (standing_spec _ _ hf _ _) ?_)
      | (with_reducible refine Rets.xsoft (standing_spec _ _ hf _ _) ?_)
      | (with_reducible refine xlateCall_of (fun _ => standing_spec _ _ hf _ _) ?_)
      | (with_reducible refine Rets.xcall (refStanding_spec ..) ?_)
      | (with_reducible refine Rets.xsoft (refStanding_spec ..) ?_)
      | (with_reducible refine xlateCall_of (fun _ => refStanding_spec ..) ?_)
      | (with_reducible refine Rets.xcall (check_spec _ _ hf _) ?_)
      | (with_reducible refine Rets.xsoft (check_spec _ _ hf _) ?_)
      | (with_reducible refine xlateCall_of (fun _ => check_spec _ _ hf _) ?_)
      | (with_reducible refine Rets.xcall (refCheck_spec ..) ?_)
      | (with_reducible refine Rets.xsoft (refCheck_spec ..) ?_)
      | (with_reducible refine xlateCall_of (fun _ => refCheck_spec ..) ?_)
      | (with_reducible refine Rets.xcall (same_l _ _ _ _ h3 rfl _) ?_)
      | (with_reducible refine Rets.xsoft (same_l _ _ _ _ h3 rfl _) ?_)
      | (with_reducible refine xlateCall_of (fun _ => same_l _ _ _ _ h3 rfl _) ?_)
      | (with_reducible refine Lit.imm ?_)
      | ((with_reducible refine Grow.intro ?_ fun b cap hb hc1 hc2 => ?_); omega) <;> (try simp -dsimp -implicitDefEqProofs [*] at hb)
      | (with_reducible refine RetView.nil2 ?_)
      | (with_reducible refine RetView.nil1 ?_)
      | (with_reducible refine RetView.loose2 (t := true) ?_)
      | (with_reducible refine RetView.loose1 (t := true) ?_)
      | (with_reducible refine RetView.fz 1 ?_ ?_)
      | (with_reducible refine RetView.same ?_)
      | (with_reducible refine DrawLate.intro [] ?_)
      | (with_reducible refine Cls_and ?_ ?_)
      | (with_reducible exact Cls.self _ _)
      | (with_reducible refine Cls_same ?_)
      | (with_reducible refine Cls_in ?_ ?_)
      | (with_reducible refine Cls_fresh ?_ ?_)
      | (with_reducible refine And.intro (fun h => ?_) (fun h => ?_)) <;> (try (exfalso; omega))
      | (with_reducible refine And.intro (fun h => ?_) ?_) <;> (try (exfalso; omega))
      | ((with_reducible refine and_keep ?_ fun hk => ?_); omega)
      | (simp -dsimp -implicitDefEqProofs [*]))
theorem doSpec_law (tt : Bool) (l : List Review) (hf : ∀ e ∈ l, fit e) (no f t v : Int) (hv : I64 v) (st : Store) : Rets P F.podiumlaw44_ReviewsDoSpec [Review.lst tt l, .int no, .int f, .int t, .int v] st (.bool true) := by
  refine (H.podiumlaw44_ReviewsDoSpec).pure hmix rfl rfl ?_
  cases hfe : (decide (l.length ≤ 30) || decide (1000 ≤ l.length) && decide (l.length ≤ 1100)) with
  | false =>
    have hfew : ∀ st, Rets P F.podiumref44_Few [Review.lst tt l] st (.bool false) := fun st => by rw [← hfe]; exact few_spec ..
    clear hfe
    repeat' (first
      | (with_reducible refine Fresh.intro fun b hb => ?_) <;> (try simp -dsimp -implicitDefEqProofs [*] at hb)
      | (with_reducible refine Rets.xcall (sane_spec _) ?_)
      | (with_reducible refine Rets.xsoft (sane_spec _) ?_)
      | (with_reducible refine xlateCall_of (fun _ => sane_spec _) ?_)
      | (with_reducible refine Rets.xcall (hfew _) ?_)
      | (with_reducible refine Rets.xsoft (hfew _) ?_)
      | (with_reducible refine xlateCall_of (fun _ => hfew _) ?_)
      | (with_reducible refine Lit.imm ?_)
      | ((with_reducible refine Grow.intro ?_ fun b cap hb hc1 hc2 => ?_); omega) <;> (try simp -dsimp -implicitDefEqProofs [*] at hb)
      | (with_reducible refine RetView.nil2 ?_)
      | (with_reducible refine RetView.nil1 ?_)
      | (with_reducible refine RetView.loose2 (t := true) ?_)
      | (with_reducible refine RetView.loose1 (t := true) ?_)
      | (with_reducible refine RetView.fz 1 ?_ ?_)
      | (with_reducible refine RetView.same ?_)
      | (with_reducible refine DrawLate.intro [] ?_)
      | (with_reducible refine Cls_and ?_ ?_)
      | (with_reducible exact Cls.self _ _)
      | (with_reducible refine Cls_same ?_)
      | (with_reducible refine Cls_in ?_ ?_)
      | (with_reducible refine Cls_fresh ?_ ?_)
      | (with_reducible refine And.intro (fun h => ?_) (fun h => ?_)) <;> (try (exfalso; omega))
      | (with_reducible refine And.intro (fun h => ?_) ?_) <;> (try (exfalso; omega))
      | ((with_reducible refine and_keep ?_ fun hk => ?_); omega)
      | (simp -dsimp -implicitDefEqProofs [*]))
  | true =>
    have hfew : ∀ st, Rets P F.podiumref44_Few [Review.lst tt l] st (.bool true) := fun st => by rw [← hfe]; exact few_spec ..
    have hl := few_len hfe
    have h2 := openL_len l no f t
    have h3 : (openL l no f t).length ≤ 100000 := by omega
    have h4 := closeL_len l no t v
    have h5 : (closeL l no t v).length ≤ 100000 := by omega
    clear hfe
    repeat' (first
      | (with_reducible refine Fresh.intro fun b hb => ?_) <;> (try simp -dsimp -implicitDefEqProofs [*] at hb)
      | (with_reducible refine Rets.xcall (sane_spec _) ?_)
      | (with_reducible refine Rets.xsoft (sane_spec _) ?_)
      | (with_reducible refine xlateCall_of (fun _ => sane_spec _) ?_)
      | (with_reducible refine Rets.xcall (hfew _) ?_)
      | (with_reducible refine Rets.xsoft (hfew _) ?_)
      | (with_reducible refine xlateCall_of (fun _ => hfew _) ?_)
      | (with_reducible refine Rets.xcall (open_spec _ _ hf _ _ _ _) ?_)
      | (with_reducible refine Rets.xsoft (open_spec _ _ hf _ _ _ _) ?_)
      | (with_reducible refine xlateCall_of (fun _ => open_spec _ _ hf _ _ _ _) ?_)
      | (with_reducible refine Rets.xcall (refOpen_spec ..) ?_)
      | (with_reducible refine Rets.xsoft (refOpen_spec ..) ?_)
      | (with_reducible refine xlateCall_of (fun _ => refOpen_spec ..) ?_)
      | (with_reducible refine Rets.xcall (close_spec _ _ hf _ _ _ hv _) ?_)
      | (with_reducible refine Rets.xsoft (close_spec _ _ hf _ _ _ hv _) ?_)
      | (with_reducible refine xlateCall_of (fun _ => close_spec _ _ hf _ _ _ hv _) ?_)
      | (with_reducible refine Rets.xcall (refClose_spec ..) ?_)
      | (with_reducible refine Rets.xsoft (refClose_spec ..) ?_)
      | (with_reducible refine xlateCall_of (fun _ => refClose_spec ..) ?_)
      | (with_reducible refine Rets.xcall (same_l _ _ (openL l no f t) _ h3 rfl _) ?_)
      | (with_reducible refine Rets.xsoft (same_l _ _ (openL l no f t) _ h3 rfl _) ?_)
      | (with_reducible refine xlateCall_of (fun _ => same_l _ _ (openL l no f t) _ h3 rfl _) ?_)
      | (with_reducible refine Rets.xcall (same_l _ _ (closeL l no t v) _ h5 rfl _) ?_)
      | (with_reducible refine Rets.xsoft (same_l _ _ (closeL l no t v) _ h5 rfl _) ?_)
      | (with_reducible refine xlateCall_of (fun _ => same_l _ _ (closeL l no t v) _ h5 rfl _) ?_)
      | (with_reducible refine Lit.imm ?_)
      | ((with_reducible refine Grow.intro ?_ fun b cap hb hc1 hc2 => ?_); omega) <;> (try simp -dsimp -implicitDefEqProofs [*] at hb)
      | (with_reducible refine RetView.nil2 ?_)
      | (with_reducible refine RetView.nil1 ?_)
      | (with_reducible refine RetView.loose2 (t := true) ?_)
      | (with_reducible refine RetView.loose1 (t := true) ?_)
      | (with_reducible refine RetView.fz 1 ?_ ?_)
      | (with_reducible refine RetView.same ?_)
      | (with_reducible refine DrawLate.intro [] ?_)
      | (with_reducible refine Cls_and ?_ ?_)
      | (with_reducible exact Cls.self _ _)
      | (with_reducible refine Cls_same ?_)
      | (with_reducible refine Cls_in ?_ ?_)
      | (with_reducible refine Cls_fresh ?_ ?_)
      | (with_reducible refine And.intro (fun h => ?_) (fun h => ?_)) <;> (try (exfalso; omega))
      | (with_reducible refine And.intro (fun h => ?_) ?_) <;> (try (exfalso; omega))
      | ((with_reducible refine and_keep ?_ fun hk => ?_); omega)
      | (simp -dsimp -implicitDefEqProofs [*]))
end Go.Proofs.Ytbjfmedpaohpnaa
