/- All of the pure layer. -/
import Derived.Test.YtbjfmedpaohpnaaLSg
import Derived.KernelRfl
namespace Go.Pv
/-- Function g of P is the compact function m. -/
def Has (P : Program) (g : FuncId) (m : MFunc) : Prop := ∃ fn, P.funcs[g]? = some fn ∧ (fn.name == "runtime.NumGoroutine") = false ∧ convFunc P fn = some m
/-- A contract from the walk; what is behind a return, or a panic, may be seen otherwise. -/
theorem Has.calls {P : Program} (hmix : P.follows .mixedOrders = true) {g : FuncId} {m : MFunc} (h : Has P g m) {ps : List PV} {st : Store} {Q : PEnd → Store → Prop} (hlen : ps.length = m.nparams)
    {R E : PV → Store → Prop} (hR : ∀ p st, R p st → RetView .ret p st Q) (hE : ∀ p st, E p st → RetView .panic p st Q)
    (hw : mwp P m.body (retPost m.results R E) ⟨initEnv 0 ps, st⟩) : PCalls P g ps st Q := by
  obtain ⟨fn, h1, h2, h3⟩ := h
  exact pcalls_of_mwp hmix h1 h2 h3 hlen hR hE hw

/-! ### Views -/
theorem Sees.refl (p : PV) (st : Store) : Sees p st p st := ⟨fun I _ _ h1 h2 => ⟨I, I.le_refl, h1, h2⟩⟩
theorem Sees.trans {p q r : PV} {s t u : Store} (h : Sees p s q t) (k : Sees q t r u) : Sees p s r u := ⟨fun I w v h1 h2 => by
  obtain ⟨I', a, b, c⟩ := h.out I w v h1 h2
  obtain ⟨I'', a', b', c'⟩ := k.out I' w v b c
  exact ⟨I'', Imm.le_trans a a', b', c'⟩⟩
/-- A store that tells no more than another one. -/
def StLe (st' st : Store) : Prop := ∀ b o, sget st' b = some o → sget st b = some o
theorem StLe.refl (st : Store) : StLe st st := fun _ _ h => h
theorem StLe.trans {a b c : Store} (h : StLe a b) (k : StLe b c) : StLe a c := fun x o hx => k x o (h x o hx)
theorem StLe.cons {st : Store} {b : Nat} {o : PObj} (h : sget st b = none) : StLe st ((b, o) :: st) := by
  intro c x hc
  simp only [sget]
  split
  · rename_i e; subst e; rw [h] at hc; cases hc
  · exact hc
theorem StLe.fresh {st : Store} {b : Nat} {o : PObj} (h : snew st b) : StLe st ((b, o) :: st) := .cons (snew_get h)
theorem sfresh_of_get {n : Nat} : ∀ {st : Store}, (∀ b o, sget st b = some o → b < n) → sfresh st n
  | [], _ => trivial
  | (b, o) :: st, h => by
    refine ⟨h b o (by simp [sget]), sfresh_of_get fun c x hc => ?_⟩
    by_cases hbc : b = c
    · subst hbc; exact h b o (by simp [sget])
    · exact h c x (by simp [sget, hbc, hc])
theorem SRep.le {I : Imm} {st st' : Store} {w : World} (h : SRep I st w) (hle : StLe st' st) : SRep I st' w :=
  ⟨h.imm, fun b o hb => h.objs b o (hle b o hb), sfresh_of_get fun b o hb => h.obj_lt (hle b o hb)⟩
theorem Sees.drop {p : PV} {st st' : Store} (h : StLe st' st) : Sees p st p st' := ⟨fun I _ _ h1 h2 => ⟨I, I.le_refl, h1.le h, h2⟩⟩

theorem RetView.same {c : PV → PEnd} {p : PV} {st : Store} {Q : PEnd → Store → Prop} (h : Q (c p) st) : RetView c p st Q := ⟨p, st, .refl _ _, h⟩
theorem RetView.drop {c : PV → PEnd} {p : PV} {st st' : Store} {Q : PEnd → Store → Prop} (hle : StLe st' st) (h : Q (c p) st') : RetView c p st Q := ⟨p, st', .drop hle, h⟩
theorem RetView.fresh1 {c : PV → PEnd} {p : PV} {st : Store} {b : Nat} {o : PObj} {Q : PEnd → Store → Prop} (hf : snew st b) (h : RetView c p st Q) : RetView c p ((b, o) :: st) Q := by
  obtain ⟨p', st', h1, h2⟩ := h
  exact ⟨p', st', (Sees.drop (.fresh hf)).trans h1, h2⟩

theorem View.refl (s : PS) : View s s := fun I _ _ h1 h2 => ⟨I, I.le_refl, h1, h2⟩
theorem View.trans {s t u : PS} (h : View s t) (k : View t u) : View s u := fun I tm w h1 h2 => by
  obtain ⟨I', a, b, c⟩ := h I tm w h1 h2
  obtain ⟨I'', a', b', c'⟩ := k I' tm w b c
  exact ⟨I'', Imm.le_trans a a', b', c'⟩
theorem eget_mem {e : Env} : ∀ {l : Env} {t : Nat}, (∀ q ∈ l, eget e q.1 = q.2) → eget l t = .any ∨ eget l t = eget e t
  | [], _, _ => .inl rfl
  | (u, p) :: l, t, h => by
    simp only [eget]
    by_cases hut : u = t
    · subst hut
      simp only [if_true]
      exact .inr (h (u, p) (by simp)).symm
    · simp only [hut, if_false]
      exact eget_mem fun q hq => h q (by simp [hq])
/-- A shorter list of slots, a smaller store. -/
theorem View.weak {e e' : Env} {st st' : Store} (he : ∀ q ∈ e', eget e q.1 = q.2) (hle : StLe st' st) : View ⟨e, st⟩ ⟨e', st'⟩ := fun I tm w h1 h2 =>
  ⟨I, I.le_refl, fun t => by
    rcases eget_mem (t := t) he with h | h
    · simp only [h, vrep]
    · simp only [h]; exact h1 t, h2.le hle⟩

/-! ### Contracts of functions that leave the store alone -/
/-- A store under fresh objects. -/
def Over (st0 : Store) : Store → Prop
  | [] => st0 = []
  | (b, o) :: st => st0 = (b, o) :: st ∨ snew st b ∧ Over st0 st
theorem Over.le {st0 : Store} : ∀ {st : Store}, Over st0 st → StLe st0 st
  | [], h => by simp only [Over] at h; subst h; exact .refl _
  | (b, o) :: st, h => by
    simp only [Over] at h
    rcases h with rfl | ⟨h1, h2⟩
    · exact .refl _
    · exact h2.le.trans (.fresh h1)
@[simp] theorem Over.self (st : Store) : Over st st := by
  cases st with
  | nil => rfl
  | cons q st => exact .inl rfl
@[simp] theorem Over.cons {st : Store} (b : Nat) (o : PObj) (st0 : Store) : Over st0 ((b, o) :: st) ↔ st0 = (b, o) :: st ∨ snew st b ∧ Over st0 st := .rfl
def Rets (P : Program) (g : FuncId) (ps : List PV) (st : Store) (p : PV) : Prop := PCalls P g ps st fun e s => e = .ret p ∧ s = st
/-- Called so, the function gives p. -/
theorem Has.rets {P : Program} (hmix : P.follows .mixedOrders = true) {g : FuncId} {m : MFunc} (h : Has P g m) {ps : List PV} {st : Store} {p : PV} (hlen : ps.length = m.nparams)
    (hw : mwp P m.body (retPost m.results (fun q st' => q = p ∧ Over st st') (fun _ _ => False)) ⟨initEnv 0 ps, st⟩) : Rets P g ps st p :=
  h.calls hmix hlen (fun _ _ ⟨h1, h2⟩ => .drop h2.le ⟨by rw [h1], rfl⟩) (fun _ _ h => h.elim) hw
theorem Rets.calls {P : Program} {g : FuncId} {ps : List PV} {st : Store} {p : PV} (h : Rets P g ps st p) {Q : PEnd → Store → Prop} (hq : Q (.ret p) st) : PCalls P g ps st Q :=
  PCalls.mono h fun e s ⟨h1, h2⟩ => by subst h1; subst h2; exact hq
theorem Rets.soft {P : Program} {g : FuncId} {ps : List PV} {st : Store} {p : PV} (h : Rets P g ps st p) {K : PV → Prop} {QP : PV → Store → Prop} (hk : K p) :
    ∃ p, PCalls P g ps st (fun en st' => st' = st ∧ (en = .ret p ∨ ∃ q, en = .panic q ∧ QP q st)) ∧ K p :=
  ⟨p, PCalls.mono h fun _ _ ⟨h1, h2⟩ => ⟨h2, .inl h1⟩, hk⟩
@[congr] theorem PCalls_congr {P : Program} {g : FuncId} {ps ps' : List PV} {st st' : Store} {Q : PEnd → Store → Prop} (h1 : ps = ps') (h2 : st = st') : PCalls P g ps st Q = PCalls P g ps' st' Q := by
  subst h1; subst h2; rfl
@[congr] theorem LoopInv_congr {V : PS → PS → Prop} {body : MPost → PS → Prop} {Q : MPost} {s s' : PS} (h : s = s') : LoopInv V body Q s = LoopInv V body Q s' := by subst h; rfl
@[congr] theorem RetView_congr {c : PV → PEnd} {p p' : PV} {st st' : Store} {Q : PEnd → Store → Prop} (h : p = p') (h2 : st = st') : RetView c p st Q = RetView c p' st' Q := by subst h; subst h2; rfl

end Go.Pv
