/- Rows of the seat: whatever the input, each law's function gives true and leaves what it was given as it was. -/
import Derived.Test.YtiaebckdjklnoaaGreatRows
import Derived.WalkKit
import Derived.ProofKit
import Derived.OpenShut
import Derived.ChangeOld
import Derived.Below
import Derived.Test.YtiaebckdjklnoaaGreatLBr
import Derived.Test.YtiaebckdjklnoaaGreatLGl
import Derived.Test.YtiaebckdjklnoaaGreatCpodiumlaw56RiskEnough
namespace Go.Proofs.YtiaebckdjklnoaaGreat
open Go.ChangeShapes Go.WideShapes Go.ChangeAt Go.RowKit Go.Pv
theorem own : ownKnob Tryz.prog.godebug = none := by kernel_rfl
theorem laidOut : laidOutB Tryz.prog = true := by kernel_rfl
section
variable {H : Type} {enc : TypeId × Value → H} {W : World} {base : Nat} {spare : Nat → Bool} {held : Bool}
theorem op_ints : Opens enc Tryz.prog W base spare held [] 22 1 (fun l : List Int => [intLst false l]) (fun _ => True) :=
  (Opens.slice (OffE.nil) Tryz.underlying22 (by kernel_rfl) (by decide) (Opens.i64 Tryz.underlying3 (by kernel_rfl))).conv id (fun l => by rw [ints_flat]; rfl) (fun _ _ => trivial)
theorem op_big : Opens enc Tryz.prog W base spare held [] 24 2 (fun x : Bool × List Int => [.bool x.1, intLst false x.2]) (fun _ => True) :=
  (Opens.struct Tryz.underlying24 (by kernel_rfl) (.cons rfl (Opens.bool Tryz.underlying4 (by kernel_rfl)) (.cons rfl op_ints .nil))).conv (fun x => (x.1, x.2.1)) (fun _ => rfl) (fun _ _ => trivial)
theorem op_ratio : Opens enc Tryz.prog W base spare held [] 26 4 (fun x : (Bool × List Int) × (Bool × List Int) => [.bool x.1.1, intLst false x.1.2, .bool x.2.1, intLst false x.2.2]) (fun _ => True) :=
  (Opens.struct Tryz.underlying26 (by kernel_rfl) (.cons rfl op_big (.cons rfl op_big .nil))).conv (fun x => (x.1, x.2.1)) (fun _ => rfl) (fun _ _ => trivial)
end
theorem wf_u8 {n : Int} (h : (Lit.int .u8 n).wf = true) : 0 ≤ n ∧ n < 256 := by
  simp [Lit.wf, IntKind.min, IntKind.max, IntKind.bits, IntKind.signed] at h
  omega

set_option maxRecDepth 100000 in
theorem riskEnough_lifted (os : Os) (started : os.Started) (H : Type) (enc : TypeId × Value → H) :
    ReturnsInHanded {} Tryz.checked os 4 .any (Rows.riskEnoughSpec.pre6 enc Tryz.prog Tryz.f4 Rows.riskEnoughRow.domain false) (Rows.riskEnoughSpec.post enc Tryz.prog Tryz.f4 false true false false) := by
  refine returnsInHanded_of_change (C := Tryz.checked) own started (by kernel_rfl) Tryz.func4
    (ChangeSpec.witness6 (enc := enc) (C := Tryz.checked) false ⟨#[], #[.int .u8 0, .int .u8 0, .agg #[.bool false, .slice none 0 0, .bool false, .slice none 0 0]], []⟩ 8 (by kernel_rfl) (by kernel_rfl) (by kernel_rfl) (by kernel_rfl)) ?_
  intro W base args ds gs before hval0 hW hcnd _
  have hval : ∀ (j : Nat) t v, Tryz.f4.params[j]? = some t → args[j]? = some v → Value.okWide Tryz.prog W .any base t v := hval0
  have hW' := hW
  obtain ⟨p, q, hA0, hV, rfl, hfz, hnd⟩ := hW
  have hA : DataW.TrodAll enc Tryz.prog W 0 (fun _ => true) true Tryz.f4.params.toList args.toList ds p := hA0
  rw [Tryz.params4] at hA hval
  obtain ⟨v0, vs0, d0, ds0, p0, q0, hargs, rfl, rfl, h0, r0⟩ := trodAll_cons hA
  obtain ⟨v1, vs1, d1, ds1, p1, q1, rfl, rfl, rfl, h1, r1⟩ := trodAll_cons r0
  obtain ⟨v2, vs2, d2, ds2, p2, q2, rfl, rfl, rfl, h2, r2⟩ := trodAll_cons r1
  obtain ⟨rfl, rfl, rfl⟩ := trodAll_nil r2
  obtain rfl : args = #[v0, v1, v2] := by cases args; simp_all
  obtain ⟨rfl, rfl⟩ := trodVars_none hV
  obtain ⟨a0, rfl, rfl, rfl, w0⟩ := open_int Tryz.underlying5 (hval 0 5 v0 rfl rfl) h0
  obtain ⟨a1, rfl, rfl, rfl, w1⟩ := open_int Tryz.underlying5 (hval 1 5 v1 rfl rfl) h1
  have k2 := h2
  have lt2 : ∀ x ∈ p2, x.block < W.heap.size := by obtain ⟨m, hm⟩ := k2; exact DataW.trod_lt m _ _ _ hm
  obtain ⟨x2, g2, w2⟩ := Opens.argS (gl := []) op_ratio Tryz.underlying26 (hval 2 26 v2 rfl rfl) h2
  clear hA0 hval0
  refine ((_root_.Go.Proofs.YtiaebckdjklnoaaGreat.H.podiumlaw56_RiskEnough).bridgeG (gl := []) (enough_law a0 a1 (wf_u8 w0) (wf_u8 w1) x2.1.1 false x2.2.1 false x2.1.2 x2.2.2 []) (w := W) (fun _ _ _ h => by cases h) (vs := [.int .u8 a0, .int .u8 a1, v2]) ⟨rfl, rfl, w2, trivial⟩).mono fun e W' ⟨he, bel⟩ => ?_
  subst he
  exact ⟨_, rfl, _, _, _, [], _, [], hW', trodAll_mk1 (shut_bool Tryz.underlying4 _), (trodAll_cons_mk (shut_int Tryz.underlying5 w0) (trodAll_cons_mk (shut_int Tryz.underlying5 w1) (trodAll_cons_mk (Go.RowKit.Below.trod laidOut (by kernel_rfl) (of_decide_eq_true (by kernel_rfl)) k2 bel lt2) trodAll_mk0))), rfl, bel.frame _, fun h => by cases h⟩
theorem riskEnough_holds : Rows.RiskEnoughSaid :=
  OpenClaim.holds_of_wide 4 Tryz.f4 rfl rfl rfl rfl rfl rfl rfl ⟨rfl, rfl, rfl, rfl, rfl⟩ rfl rfl rfl rfl rfl (by kernel_rfl) Tryz.func4 (by kernel_rfl)
    (of_decide_eq_true (by kernel_rfl)) (by unfold Func.isWrapper; first | (rw [if_pos (by decide +kernel)]; kernel_rfl) | (rw [if_neg (by decide +kernel)]; exact ⟨rfl, rfl⟩))
    (fun os started H enc _ => riskEnough_lifted os started H enc)

end Go.Proofs.YtiaebckdjklnoaaGreat
