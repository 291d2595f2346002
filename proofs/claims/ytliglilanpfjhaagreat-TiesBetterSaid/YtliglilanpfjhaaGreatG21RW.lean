/- Rows of the seat: whatever the input, each law's function gives true and leaves what it was given as it was. -/
import Derived.Test.YtliglilanpfjhaaGreatRows
import Derived.WalkKit
import Derived.ProofKit
import Derived.OpenShut
import Derived.ChangeOld
import Derived.Below
import Derived.JoinedCond
import Derived.Test.YtliglilanpfjhaaGreatLBr
import Derived.Test.YtliglilanpfjhaaGreatLGl
import Derived.Test.YtliglilanpfjhaaGreatG21RA
namespace Go.Proofs.YtliglilanpfjhaaGreat
open Go.ChangeShapes Go.WideShapes Go.ChangeAt Go.RowKit Go.Pv
theorem own : ownKnob Tryz.prog.godebug = none := by kernel_rfl
theorem laidOut : laidOutB Tryz.prog = true := by kernel_rfl
section
variable {H : Type} {enc : TypeId × Value → H} {W : World} {base : Nat} {spare : Nat → Bool} {held : Bool}
theorem op_ints : Opens enc Tryz.prog W base spare held [] 23 1 (fun l : List Int => [intLst false l]) (fun _ => True) :=
  (Opens.slice (OffE.nil) Tryz.underlying23 (by kernel_rfl) (by decide) (Opens.i64 Tryz.underlying3 (by kernel_rfl))).conv id (fun l => by rw [ints_flat]; rfl) (fun _ _ => trivial)
theorem op_big : Opens enc Tryz.prog W base spare held [] 25 2 (fun x : Bool × List Int => [.bool x.1, intLst false x.2]) (fun _ => True) :=
  (Opens.struct Tryz.underlying25 (by kernel_rfl) (.cons rfl (Opens.bool Tryz.underlying4 (by kernel_rfl)) (.cons rfl op_ints .nil))).conv (fun x => (x.1, x.2.1)) (fun _ => rfl) (fun _ _ => trivial)
theorem op_ratio : Opens enc Tryz.prog W base spare held [] 27 4 (fun x : Rw => x.enc) (fun _ => True) :=
  (Opens.struct Tryz.underlying27 (by kernel_rfl) (.cons rfl op_big (.cons rfl op_big .nil))).conv (fun x => ⟨x.1.1, x.1.2, x.2.1.1, x.2.1.2⟩) (fun _ => rfl) (fun _ _ => trivial)
theorem op_ratios : Opens enc Tryz.prog W base spare held [] 28 1 (fun l : List Rw => [Rw.lst l]) (fun _ => True) :=
  (Opens.slice (OffE.nil) Tryz.underlying28 (by kernel_rfl) (by decide) op_ratio).conv id (fun _ => rfl) (fun _ _ => trivial)
theorem op_keyed : Opens enc Tryz.prog W base spare held [] 30 10 (fun x : Ky => x.enc) (fun _ => True) :=
  (Opens.struct Tryz.underlying30 (by kernel_rfl) (.cons rfl (Opens.i64 Tryz.underlying3 (by kernel_rfl)) (.cons rfl op_ratio (.cons rfl op_ratios (.cons rfl op_ratios (.cons rfl (Opens.i64 Tryz.underlying3 (by kernel_rfl)) (.cons rfl (Opens.i64 Tryz.underlying3 (by kernel_rfl)) (.cons rfl (Opens.i64 Tryz.underlying3 (by kernel_rfl)) .nil)))))))).conv
    (fun x => ⟨x.1, x.2.1, x.2.2.1, x.2.2.2.1, x.2.2.2.2.1, x.2.2.2.2.2.1, x.2.2.2.2.2.2.1⟩) (fun _ => rfl) (fun _ _ => trivial)
theorem op_key : Opens enc Tryz.prog W base spare held [] 48 3 (fun x : Ke => x.enc) (fun _ => True) :=
  (Opens.struct Tryz.underlying48 (by kernel_rfl) (.cons rfl (Opens.i64 Tryz.underlying3 (by kernel_rfl)) (.cons rfl (Opens.str Tryz.underlying9 (by kernel_rfl)) (.cons rfl (Opens.i64 Tryz.underlying3 (by kernel_rfl)) .nil)))).conv
    (fun x => ⟨x.1, x.2.1, x.2.2.1⟩) (fun _ => rfl) (fun _ _ => trivial)
theorem op_keys : Opens enc Tryz.prog W base spare held [] 22 1 (fun l : List Ke => [Ke.lst l]) (fun _ => True) :=
  (Opens.slice (OffE.nil) Tryz.underlying22 (by kernel_rfl) (by decide) op_key).conv id (fun _ => rfl) (fun _ _ => trivial)
end
theorem lst_wide {I : Imm} {t : Bool} {cs : List PV} {n : Nat} {v : Value} (h : vrep I (.list t cs n) v) : n ≤ 9223372036854775807 := by
  have := vrep_wide _ _ h
  simp only [PV.wide] at this
  exact this.1
theorem ky_wideP {x : Ky} (h : PV.wides x.enc) : x.Wide := by
  simp only [Ky.enc, PV.wides, PV.wide] at h
  exact ⟨h.2.2.2.2.2.1.1, h.2.2.2.2.2.2.1.1⟩
theorem ky_wide {I : Imm} {x : Ky} {v : Value} (h : vrep I (Ky.pv x) v) : x.Wide := by
  have := vrep_wide _ _ h
  simp only [PV.wide] at this
  exact ky_wideP this
end Go.Proofs.YtliglilanpfjhaaGreat
