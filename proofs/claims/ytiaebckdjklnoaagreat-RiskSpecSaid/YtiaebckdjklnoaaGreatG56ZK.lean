/- Rows of the seat: whatever the input, each law's function gives true and leaves what it was given as it was. -/
import Derived.Test.YtiaebckdjklnoaaGreatRows
import Derived.WalkKit
import Derived.ProofKit
import Derived.OpenShut
import Derived.ChangeOld
import Derived.Below
import Derived.Test.YtiaebckdjklnoaaGreatLBr
import Derived.Test.YtiaebckdjklnoaaGreatLGl
import Derived.Test.YtiaebckdjklnoaaGreatCpodiumlaw56RiskSpec
namespace Go.Proofs.YtiaebckdjklnoaaGreat
open Go.ChangeShapes Go.WideShapes Go.ChangeAt Go.RowKit Go.Pv
theorem own : ownKnob Tryz.prog.godebug = none := by kernel_rfl
theorem laidOut : laidOutB Tryz.prog = true := by kernel_rfl
section
variable {H : Type} {enc : TypeId × Value → H} {W : World} {base : Nat} {spare : Nat → Bool} {held : Bool}
theorem op_ints : Opens enc Tryz.prog W base spare held [] 22 1 (fun l : List Int => [intLst false l]) (fun _ => True) :=
  (Opens.slice (OffE.nil) Tryz.underlying22 (by kernel_rfl) (by decide) (Opens.i64 Tryz.underlying3 (by kernel_rfl))).conv id (fun l => by rw [ints_flat]; rfl) (fun _ _ => trivial)
theorem op_big : Opens enc Tryz.prog W base spare held [] 24 2 (fun x : Bool × List Int => [.bool x.1, intLst false x.2]) (fun _ => True) :=
  (Opens.struct Tryz.underlying24 (by kernel_rfl) (.cons rfl (Opens.bool Tryz.underlying4 (by kernel_rfl)) (.cons rfl op_ints .nil))).conv (fun x => (x.1, x.2.1)) (fun _ => rfl) (fun _ _ => trivial)
theorem op_ratio : Opens enc Tryz.prog W base spare held [] 26 4 (fun x : (Bool × List Int) × (Bool × List Int) => [.bool x.1.1, intLst false x.1.2, .bool x.2.1, intLst false x.2.2]) (fun _ => True) :=
  (Opens.struct Tryz.underlying26 (by kernel_rfl) (.cons rfl op_big (.cons rfl op_big .nil))).conv (fun x => (x.1, x.2.1)) (fun _ => rfl) (fun _ _ => trivial)
end

set_option maxRecDepth 100000 in
theorem riskSpec_lifted (os : Os) (started : os.Started) (H : Type) (enc : TypeId × Value → H) :
    ReturnsInHanded {} Tryz.checked os 3 .any (Rows.riskSpecSpec.pre6 enc Tryz.prog Tryz.f3 Rows.riskSpecRow.domain false) (Rows.riskSpecSpec.post enc Tryz.prog Tryz.f3 false true false false) := by
  refine returnsInHanded_of_change (C := Tryz.checked) own started (by kernel_rfl) Tryz.func3
    (ChangeSpec.witness6 (enc := enc) (C := Tryz.checked) false ⟨#[], #[.int .i64 0, .int .i64 0, .int .i64 0, .agg #[.bool false, .slice none 0 0, .bool false, .slice none 0 0]], []⟩ 8 (by kernel_rfl) (by kernel_rfl) (by kernel_rfl) (by kernel_rfl)) ?_
  intro W base args ds gs before hval0 hW hcnd _
  have hval : ∀ (j : Nat) t v, Tryz.f3.params[j]? = some t → args[j]? = some v → Value.okWide Tryz.prog W .any base t v := hval0
  have hW' := hW
  obtain ⟨p, q, hA0, hV, rfl, hfz, hnd⟩ := hW
  have hA : DataW.TrodAll enc Tryz.prog W 0 (fun _ => true) true Tryz.f3.params.toList args.toList ds p := hA0
  rw [Tryz.params3] at hA hval
  obtain ⟨v0, vs0, d0, ds0, p0, q0, hargs, rfl, rfl, h0, r0⟩ := trodAll_cons hA
  obtain ⟨v1, vs1, d1, ds1, p1, q1, rfl, rfl, rfl, h1, r1⟩ := trodAll_cons r0
  obtain ⟨v2, vs2, d2, ds2, p2, q2, rfl, rfl, rfl, h2, r2⟩ := trodAll_cons r1
  obtain ⟨v3, vs3, d3, ds3, p3, q3, rfl, rfl, rfl, h3, r3⟩ := trodAll_cons r2
  obtain ⟨rfl, rfl, rfl⟩ := trodAll_nil r3
  obtain rfl : args = #[v0, v1, v2, v3] := by cases args; simp_all
  obtain ⟨rfl, rfl⟩ := trodVars_none hV
  obtain ⟨a0, rfl, rfl, rfl, w0⟩ := open_int Tryz.underlying3 (hval 0 3 v0 rfl rfl) h0
  obtain ⟨a1, rfl, rfl, rfl, w1⟩ := open_int Tryz.underlying3 (hval 1 3 v1 rfl rfl) h1
  obtain ⟨a2, rfl, rfl, rfl, w2⟩ := open_int Tryz.underlying3 (hval 2 3 v2 rfl rfl) h2
  have k3 := h3
  have lt3 : ∀ x ∈ p3, x.block < W.heap.size := by obtain ⟨m, hm⟩ := k3; exact DataW.trod_lt m _ _ _ hm
  obtain ⟨x3, g3, w3⟩ := Opens.argS (gl := []) op_ratio Tryz.underlying26 (hval 3 26 v3 rfl rfl) h3
  clear hA0 hval0
  refine ((_root_.Go.Proofs.YtiaebckdjklnoaaGreat.H.podiumlaw56_RiskSpec).bridgeG (gl := []) (spec_law a0 a1 a2 x3.1.1 false x3.2.1 false x3.1.2 x3.2.2 []) (w := W) (fun _ _ _ h => by cases h) (vs := [.int .i64 a0, .int .i64 a1, .int .i64 a2, v3]) ⟨rfl, rfl, rfl, w3, trivial⟩).mono fun e W' ⟨he, bel⟩ => ?_
  subst he
  exact ⟨_, rfl, _, _, _, [], _, [], hW', trodAll_mk1 (shut_bool Tryz.underlying4 _), (trodAll_cons_mk (shut_int Tryz.underlying3 w0) (trodAll_cons_mk (shut_int Tryz.underlying3 w1) (trodAll_cons_mk (shut_int Tryz.underlying3 w2) (trodAll_cons_mk (Go.RowKit.Below.trod laidOut (by kernel_rfl) (of_decide_eq_true (by kernel_rfl)) k3 bel lt3) trodAll_mk0)))), rfl, bel.frame _, fun h => by cases h⟩
theorem riskSpec_holds : Rows.RiskSpecSaid :=
  OpenClaim.holds_of_wide 3 Tryz.f3 rfl rfl rfl rfl rfl rfl rfl ⟨rfl, rfl, rfl, rfl, rfl⟩ rfl rfl rfl rfl rfl (by kernel_rfl) Tryz.func3 (by kernel_rfl)
    (of_decide_eq_true (by kernel_rfl)) (by unfold Func.isWrapper; first | (rw [if_pos (by decide +kernel)]; kernel_rfl) | (rw [if_neg (by decide +kernel)]; exact ⟨rfl, rfl⟩))
    (fun os started H enc _ => riskSpec_lifted os started H enc)

end Go.Proofs.YtiaebckdjklnoaaGreat
