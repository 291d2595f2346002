/- Rows of the seat: whatever the input, each law's function gives true and leaves what it was given as it was. -/
import Derived.Test.YtliglilanpfjhaaRows
import Derived.WalkKit
import Derived.ProofKit
import Derived.OpenShut
import Derived.ChangeOld
import Derived.Below
import Derived.JoinedCond
import Derived.Test.YtliglilanpfjhaaLBr
import Derived.Test.YtliglilanpfjhaaLGl
import Derived.Test.YtliglilanpfjhaaS21ZQ
namespace Go.Proofs.Ytliglilanpfjhaa
open Go.ChangeShapes Go.WideShapes Go.ChangeAt Go.RowKit Go.Pv
theorem own : ownKnob Try.prog.godebug = none := by kernel_rfl
theorem laidOut : laidOutB Try.prog = true := by kernel_rfl
section
variable {H : Type} {enc : TypeId × Value → H} {W : World} {base : Nat} {spare : Nat → Bool} {held : Bool}
theorem op_ints : Opens enc Try.prog W base spare held [] 23 1 (fun l : List Int => [intLst false l]) (fun _ => True) :=
  (Opens.slice (OffE.nil) Try.underlying23 (by kernel_rfl) (by decide) (Opens.i64 Try.underlying3 (by kernel_rfl))).conv id (fun l => by rw [ints_flat]; rfl) (fun _ _ => trivial)
theorem op_big : Opens enc Try.prog W base spare held [] 25 2 (fun x : Bool × List Int => [.bool x.1, intLst false x.2]) (fun _ => True) :=
  (Opens.struct Try.underlying25 (by kernel_rfl) (.cons rfl (Opens.bool Try.underlying4 (by kernel_rfl)) (.cons rfl op_ints .nil))).conv (fun x => (x.1, x.2.1)) (fun _ => rfl) (fun _ _ => trivial)
theorem op_ratio : Opens enc Try.prog W base spare held [] 27 4 (fun x : Rw => x.enc) (fun _ => True) :=
  (Opens.struct Try.underlying27 (by kernel_rfl) (.cons rfl op_big (.cons rfl op_big .nil))).conv (fun x => ⟨x.1.1, x.1.2, x.2.1.1, x.2.1.2⟩) (fun _ => rfl) (fun _ _ => trivial)
theorem op_ratios : Opens enc Try.prog W base spare held [] 28 1 (fun l : List Rw => [Rw.lst l]) (fun _ => True) :=
  (Opens.slice (OffE.nil) Try.underlying28 (by kernel_rfl) (by decide) op_ratio).conv id (fun _ => rfl) (fun _ _ => trivial)
theorem op_keyed : Opens enc Try.prog W base spare held [] 30 10 (fun x : Ky => x.enc) (fun _ => True) :=
  (Opens.struct Try.underlying30 (by kernel_rfl) (.cons rfl (Opens.i64 Try.underlying3 (by kernel_rfl)) (.cons rfl op_ratio (.cons rfl op_ratios (.cons rfl op_ratios (.cons rfl (Opens.i64 Try.underlying3 (by kernel_rfl)) (.cons rfl (Opens.i64 Try.underlying3 (by kernel_rfl)) (.cons rfl (Opens.i64 Try.underlying3 (by kernel_rfl)) .nil)))))))).conv
    (fun x => ⟨x.1, x.2.1, x.2.2.1, x.2.2.2.1, x.2.2.2.2.1, x.2.2.2.2.2.1, x.2.2.2.2.2.2.1⟩) (fun _ => rfl) (fun _ _ => trivial)
theorem op_keyeds : Opens enc Try.prog W base spare held [] 37 1 (fun l : List Ky => [Ky.lst l]) (fun _ => True) :=
  (Opens.slice (OffE.nil) Try.underlying37 (by kernel_rfl) (by decide) op_keyed).conv id (fun _ => rfl) (fun _ _ => trivial)
theorem op_key : Opens enc Try.prog W base spare held [] 44 3 (fun x : Ke => x.enc) (fun _ => True) :=
  (Opens.struct Try.underlying44 (by kernel_rfl) (.cons rfl (Opens.i64 Try.underlying3 (by kernel_rfl)) (.cons rfl (Opens.str Try.underlying9 (by kernel_rfl)) (.cons rfl (Opens.i64 Try.underlying3 (by kernel_rfl)) .nil)))).conv
    (fun x => ⟨x.1, x.2.1, x.2.2.1⟩) (fun _ => rfl) (fun _ _ => trivial)
theorem op_keys : Opens enc Try.prog W base spare held [] 22 1 (fun l : List Ke => [Ke.lst l]) (fun _ => True) :=
  (Opens.slice (OffE.nil) Try.underlying22 (by kernel_rfl) (by decide) op_key).conv id (fun _ => rfl) (fun _ _ => trivial)
end
theorem lst_wide {I : Imm} {t : Bool} {cs : List PV} {n : Nat} {v : Value} (h : vrep I (.list t cs n) v) : n ≤ 9223372036854775807 := by
  have := vrep_wide _ _ h
  simp only [PV.wide] at this
  exact this.1
theorem ky_wideP {x : Ky} (h : PV.wides x.enc) : x.Wide := by
  simp only [Ky.enc, PV.wides, PV.wide] at h
  exact ⟨h.2.2.2.2.2.1.1, h.2.2.2.2.2.2.1.1⟩
theorem ky_wide {I : Imm} {x : Ky} {v : Value} (h : vrep I (Ky.pv x) v) : x.Wide := by
  have := vrep_wide _ _ h
  simp only [PV.wide] at this
  exact ky_wideP this
theorem wides_app : ∀ {ps qs : List PV}, PV.wides (ps ++ qs) → PV.wides ps ∧ PV.wides qs
  | [], _, h => ⟨by simp only [PV.wides], h⟩
  | p :: ps, qs, h => by
    simp only [List.cons_append, PV.wides] at h ⊢
    have := wides_app h.2
    exact ⟨⟨h.1, this.1⟩, this.2⟩
theorem kys_wide {I : Imm} {L : List Ky} {v : Value} (h : vrep I (Ky.lst L) v) : ∀ x ∈ L, Ky.Wide x := by
  have := vrep_wide _ _ h
  simp only [PV.wide] at this
  have h2 := this.2
  clear this h
  induction L with
  | nil => intro x hx; cases hx
  | cons y L ih =>
    intro x hx
    have e : Ky.row (y :: L) = y.enc ++ Ky.row L := by simp [Ky.row]
    rw [e] at h2
    have h3 := wides_app h2
    rcases List.mem_cons.1 hx with rfl | hx
    · exact ky_wideP h3.1
    · exact ih h3.2 x hx

end Go.Proofs.Ytliglilanpfjhaa
