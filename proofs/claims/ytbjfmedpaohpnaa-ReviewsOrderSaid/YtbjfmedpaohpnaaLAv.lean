/- Arguments seen otherwise. -/
import Derived.Test.YtbjfmedpaohpnaaLOv
namespace Go.Pv
/-- What stands for the one stands for the other. -/
def PLe (p q : PV) : Prop := ∀ I v, vrep I p v → vrep I q v
theorem PLe.refl (p : PV) : PLe p p := fun _ _ h => h
theorem PLe.trans {p q r : PV} (h : PLe p q) (k : PLe q r) : PLe p r := fun I v hv => k I v (h I v hv)
theorem PLe.nil : PLe .nil (.list true [] 0) := fun I v h2 => by
  simp only [vrep] at h2 ⊢
  subst h2
  exact ⟨none, 0, [], rfl, Nat.le_refl _, by unfold maxLen; omega, fun _ => rfl, by simp [vcells], .inl rfl⟩
theorem PLe.loose {t : Bool} {cs : List PV} {n : Nat} : PLe (.list t cs n) (.list false cs n) := fun I v h2 => by
  simp only [vrep] at h2 ⊢
  obtain ⟨a, cap, vs, h3, h4, h5, -, h6, h7⟩ := h2
  exact ⟨a, cap, vs, h3, h4, h5, by simp, h6, h7⟩
def PsLe : List PV → List PV → Prop
  | [], [] => True
  | p :: ps, q :: qs => PLe p q ∧ PsLe ps qs
  | _, _ => False
theorem PsLe.refl : ∀ ps : List PV, PsLe ps ps
  | [] => trivial
  | p :: ps => ⟨.refl p, PsLe.refl ps⟩
theorem PsLe.vreps : ∀ {ps qs : List PV} (_ : PsLe ps qs) (I : Imm) (vs : List Value), vreps I ps vs → vreps I qs vs
  | [], [], _, _, _, h => h
  | _ :: _, _ :: _, _, _, [], h => by simp [Go.Pv.vreps] at h
  | _ :: _, _ :: _, hw, I, v :: vs, h => by
    simp only [Go.Pv.vreps] at h ⊢
    exact ⟨hw.1 I v h.1, PsLe.vreps hw.2 I vs h.2⟩
theorem PCalls.args {P : Program} {g : FuncId} {ps qs : List PV} {st : Store} {Q : PEnd → Store → Prop} (hw : PsLe ps qs) (h : PCalls P g qs st Q) : PCalls P g ps st Q :=
  h.imp (fun h => ⟨h.enters, fun I w vs h1 h2 => h.out I w vs h1 (hw.vreps I vs h2)⟩) (fun h => ⟨fun I w vs h1 h2 => h.out I w vs h1 (hw.vreps I vs h2)⟩)
theorem Rets.args {P : Program} {g : FuncId} {ps qs : List PV} {st : Store} {p : PV} (hw : PsLe ps qs) (h : Rets P g qs st p) : Rets P g ps st p := PCalls.args hw h
theorem Rets.nil0 {P : Program} {g : FuncId} {ps : List PV} {st : Store} {p : PV} (h : Rets P g (.list true [] 0 :: ps) st p) : Rets P g (.nil :: ps) st p := Rets.args (ps := .nil :: ps) (qs := .list true [] 0 :: ps) (show PsLe (.nil :: ps) (.list true [] 0 :: ps) from ⟨PLe.nil, PsLe.refl _⟩) h
end Go.Pv
