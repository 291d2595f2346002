/- The compact code is met by the model's own: what operations come to, calls, stores. -/
import Derived.Test.YtbjfmedpaohpnaaLSn3
namespace Go.Pv
variable {P : Program}

/-- What an operation has come to. -/
def UponR (P : Program) (I : Imm) (w : World) (K QP : PV → Store → Prop) : Result Next → Prop
  | .ok (.value v) w' => Held I w (fun I' st' => ∃ p, vrep I' p v ∧ K p st') w'
  | .ok .skip w' => Held I w (fun _ st' => K .any st') w'
  | .ok (.enter g args) w' => ∃ ps st1 I1, I.le I1 ∧ Calm w w' ∧ SRep I1 st1 w' ∧ ∃ vs : List Value, args = vs.toArray ∧ vreps I1 ps vs ∧ PEnter P g ps st1 (endPost K QP)
  | .ok (.round l f tmps assign body) w' => RoundIn Fence.wide 0 P l f tmps assign body w' fun e w2 => Held I w (fun I' st' => ∃ pe, erep I' pe e ∧ endPost K QP pe st') w2
  | .halt (.panic v) w' => Held I w (fun I' st' => ∃ p, vrep I' p v ∧ QP p st') w'
  | _ => False

theorem callFunc_run {g : FuncId} (h : Enters P g) (args : Array Value) (w : World) : (callFunc g args).run P w = .ok (.enter g args) w := by
  obtain ⟨fn, h1, h2, h3⟩ := h
  simp only [callFunc, Sem.run_bind, run_program, Result.andThen_ok, h1, h2, h3, Bool.false_eq_true, if_false, Sem.run_pure]

theorem callV_sound {f : PV} {args : List PV} {st : Store} {K QP : PV → Store → Prop} (hk : PCallV P f args st (endPost K QP)) {I : Imm} {w : World} (hs : SRep I st w) {fv : Value} {vs : List Value}
    (hf : vrep I f fv) (ha : vreps I args vs) : UponR P I w K QP ((do let d ← Deferred.ofValue fv vs.toArray; invoke d.target d.args : Sem Next).run P w) := by
  unfold PCallV at hk
  split at hk
  · rename_i g fs cs
    simp only [vrep] at hf
    obtain ⟨us, ws, rfl, h1, h2⟩ := hf
    have hvs : vreps I (fs ++ args ++ cs) (us ++ vs ++ ws) := vreps_append (vreps_append h1 ha) h2
    rcases hk with hk | hk
    · simp only [Deferred.ofValue, Sem.run_bind, Sem.run_pure, Result.andThen_ok, invoke, callFunc_run hk.enters, UponR]
      exact ⟨_, st, I, I.le_refl, Calm.refl w, hs, us ++ vs ++ ws, by simp, hvs, hk⟩
    · obtain ⟨v, w', h3, I', st', h4, h5, h6, p, h7, h8⟩ := hk.out I w _ hs hvs
      have e : (us.toArray ++ vs.toArray ++ ws.toArray) = (us ++ vs ++ ws).toArray := by simp
      simp only [Deferred.ofValue, Sem.run_bind, Sem.run_pure, Result.andThen_ok, invoke, e, h3, UponR]
      exact ⟨I', st', h4, h5, h6, p, h7, h8⟩
  · rename_i l
    simp only [vrep] at hf
    obtain ⟨us, ws, rfl, h1, h2⟩ := hf
    have e1 : us = [] := by cases us with | nil => rfl | cons => simp [vreps] at h1
    have e2 : ws = [] := by cases ws with | nil => rfl | cons => simp [vreps] at h2
    subst e1; subst e2
    obtain ⟨r, h3, h4, h5⟩ := hk.out I w vs hs ha
    have hg : (Instr.getLoop l).run P w = .ok r w := by
      have hgo : (getObj l).run P w = .ok (.loop r) w := by simp [getObj, Sem.run, h3]
      simp only [Instr.getLoop, Sem.run_bind, hgo, Result.andThen_ok, Sem.run_pure]
    have hsz : ¬ (vs.toArray.size ≠ r.params.size) := by simp [h4]
    simp only [Deferred.ofValue, Sem.run_bind, Sem.run_pure, Result.andThen_ok, invoke, Instr.yield, hg, UponR]
    simp only [List.append_nil, Array.empty_append, Array.append_empty, ← List.append_toArray, List.nil_append]
    rw [if_neg (by simpa using h4.symm)]
    exact h5
  · exact hk.elim

theorem length_vcells {I : Imm} {ps : List PV} {v : Value} (h : vcells I ps v.cells.toList) : v.cells.size = ps.length := by
  rw [vcells_length h]; simp

theorem map_setCells {α β : Type} (f : α → β) : ∀ (ps cs : List α) (off : Nat), (setCells cs off ps).map f = setCells (cs.map f) off (ps.map f)
  | [], _, _ => rfl
  | p :: ps, cs, off => by simp [setCells, map_setCells f ps, List.map_set]

/-- Storing a run of cells into an object of the store. -/
theorem storeCells_run {b : Nat} {T : TypeId} : ∀ (us : List Value) (i off : Nat) (vs : List Value) (w : World), w.heap[b]? = some (.cells vs.toArray T (0, 0)) → off + i + us.length ≤ vs.length →
    (∀ u ∈ us, u.oneCell' = true) →
    ∃ w', (storeCells ⟨b, off, none⟩ us i).run P w = .ok () w' ∧ Calm w w' ∧ w'.heap.size = w.heap.size ∧
      w'.heap[b]? = some (.cells (setCells vs (off + i) us).toArray T (0, 0)) ∧ ∀ c, c ≠ b → w'.heap[c]? = w.heap[c]?
  | [], i, off, vs, w, hw, _, _ => ⟨w, rfl, Calm.refl w, rfl, hw, fun _ _ => rfl⟩
  | u :: us, i, off, vs, w, hw, hl, h1 => by
    have hlen : off + i < vs.length := by simp at hl; omega
    have hcell : w.cell? ⟨b, off + i, none⟩ = some vs[off + i] := by
      rw [cell_row hw]; simp [hlen]
    have hfz : w.frozen? ⟨b, off + i, none⟩ = false := by simp [World.frozen?, hw]
    have hst : (store ((⟨b, off, none⟩ : Addr).add i) u).run P w = .ok () (w.setCell ⟨b, off + i, none⟩ u) := by
      rw [addr_add, run_store P w _ u .plain (h1 u (by simp)), hcell]
      simp [hfz]
    have hw' : (w.setCell ⟨b, off + i, none⟩ u).heap[b]? = some (.cells (vs.set (off + i) u).toArray T (0, 0)) := by
      simp [World.setCell, Array.getElem?_modify, hw]
    obtain ⟨w'', h2, h3, h4, h5, h6⟩ := storeCells_run us (i + 1) off (vs.set (off + i) u) _ hw' (by simp at hl ⊢; omega) (fun x hx => h1 x (by simp [hx]))
    refine ⟨w'', ?_, ?_, ?_, ?_, ?_⟩
    · simp only [storeCells, Sem.run_bind, hst, Result.andThen_ok]
      exact h2
    · have hc : Calm w (w.setCell ⟨b, off + i, none⟩ u) := ⟨rfl, rfl, rfl, by rw [World.size_setCell]; exact Nat.le_refl _⟩
      exact hc.trans h3
    · rw [h4, World.size_setCell]
    · rw [h5]; rfl
    · intro c hc
      rw [h6 c hc]
      simp only [World.setCell, Array.getElem?_modify]
      rw [if_neg (fun e => hc e.symm)]

end Go.Pv
