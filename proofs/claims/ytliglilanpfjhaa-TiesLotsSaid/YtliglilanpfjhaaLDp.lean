/- Functions that are deferred and do not recover. -/
import Derived.Test.YtliglilanpfjhaaLRd
namespace Go.Pv
def noRFm : MCode → Bool
  | .seq a b | .cond _ a b => noRFm a && noRFm b
  | .block _ c | .loop c => noRFm c
  | .rangeFunc .. => false
  | _ => true
theorem noRF_of {P : Program} {N : Lim} {keep : List Nat} : ∀ (c : Code) (m : MCode), convCode P N keep c = some m → noRFm m = true → noRF c = true
  | .seq a b, m, hc, h => by
    simp only [convCode] at hc
    split at hc
    · rename_i x y h1 h2
      simp only [Option.some.injEq] at hc
      subst hc
      simp only [noRFm, Bool.and_eq_true] at h
      simp only [noRF, Bool.and_eq_true]
      exact ⟨noRF_of a x h1 h.1, noRF_of b y h2 h.2⟩
    · cases hc
  | .cond c a b, m, hc, h => by
    simp only [convCode] at hc
    split at hc
    · rename_i z x y h0 h1 h2
      simp only [Option.some.injEq] at hc
      subst hc
      simp only [noRFm, Bool.and_eq_true] at h
      simp only [noRF, Bool.and_eq_true]
      exact ⟨noRF_of a x h1 h.1, noRF_of b y h2 h.2⟩
    · cases hc
  | .block id c, m, hc, h => by
    simp only [convCode, Option.map_eq_some_iff] at hc
    obtain ⟨x, h1, rfl⟩ := hc
    exact noRF_of c x h1 h
  | .loop c, m, hc, h => by
    simp only [convCode, Option.map_eq_some_iff] at hc
    obtain ⟨x, h1, rfl⟩ := hc
    exact noRF_of c x h1 h
  | .scope c, m, hc, h => by
    simp only [convCode] at hc
    exact noRF_of c m hc h
  | .rangeFunc f ps a b, m, hc, h => by
    simp only [convCode] at hc
    split at hc
    · split at hc
      · simp only [Option.some.injEq] at hc
        subst hc
        cases h
      · cases hc
    · cases hc
  | .skip, _, _, _ => rfl
  | .label _, _, _, _ => rfl
  | .region _ _ _, _, _, _ => rfl
  | .exit _, _, _, _ => rfl
  | .ret, _, _, _ => rfl
  | .goto _, _, _, _ => rfl
theorem settle_of {I : Imm} {u : PMode} {fu : FrameMode} (h : mrep I u fu) : settle fu = fu := by
  cases u with
  | returning => rw [show fu = .returning from h]; rfl
  | panicking p => obtain ⟨v, rfl, -⟩ := h; rfl
/-- What a plain function leaves that is called at the end. -/
theorem Has.pdef {P : Program} (hmix : P.follows .mixedOrders = true) {g : FuncId} {m : MFunc} (h : Has P g m) (hn : noRFm m.body = true) {ps : List PV} {u : PMode} {st : Store} {Q : PMode → Store → Prop} (hlen : ps.length = m.nparams)
    (hw : mwp P m.body (retPost m.results (fun _ st' => Q u st') (fun _ _ => False)) ⟨initEnv 0 ps, st⟩) : PDef P g ps u st Q := by
  obtain ⟨fn, hf, hname, hm⟩ := h
  unfold convFunc at hm
  split at hm
  · rename_i c hb
    split at hm
    · rename_i mc rs hmc hrs
      split at hm
      · rename_i hpar
        simp only [Option.some.injEq] at hm
        subst hm
        refine ⟨⟨fn, hf, hname, by rw [hb]; rfl⟩, fun I w vs fu hu hs hv => ?_⟩
        have hW : Wide Fence.wide := ⟨fun _ => trivial, rfl, rfl⟩
        have hrel := start_rel hpar hlen hs hv [] true
        refine (callsDIn_of_wp (R := fun e w' => (∃ v, e = .returned v) ∧ Held I w (fun _ st' => Q u st') w') hf hb trivial ?_).mono fun e u' w' hh => ?_
        · refine wpIn_mono (code_sound hmix hW c mc hmc (.inr (noRF_of c mc hmc hn)) _ I _ _ w hrel hw) fun e a' w' hq => ?_
          have done : ∀ {s : PS} {I' : Imm}, I.le I' → Calm w w' → Rel ⟨fn.ntmps, []⟩ ⟨[], [], I, true⟩ I' s a' w' → retPost rs (fun _ st' => Q u st') (fun _ _ => False) .normal s →
              a'.defers = [] ∧ ∃ v, (results fn a'.tmps).run P w' = .ok v w' ∧ (∃ v', (Ending.returned v) = .returned v') ∧ Held I w (fun _ st' => Q u st') w' := by
            intro s I' h1 h2 h3 h4
            simp only [retPost] at h4
            obtain ⟨qs, us, h5, h6, h7⟩ := results_sound h3.env h3.st _ _ hrs h4
            have hdef : a'.defers = [] := by
              have e1 := h3.fix.none rfl
              have e2 := h3.fix.defers
              cases hds : a'.defers with
              | nil => rfl
              | cons d L =>
                exfalso
                rw [hds] at e1 e2
                by_cases hmk : ∃ r, d.target = .collected r
                · obtain ⟨r, hr⟩ := hmk
                  rw [List.filterMap_cons_some (show markOf d = some r by unfold markOf; rw [hr])] at e1
                  cases e1
                · rw [List.filter_cons_of_pos (show notMark d = true by unfold notMark; split; (· rename_i r hr; exact absurd ⟨r, hr⟩ hmk); rfl)] at e2
                  cases e2
            have hrun : (results fn a'.tmps).run P w' = .ok (if hh : us.length = 1 then us[0] else .tuple us.toArray) w' := by
              rw [results_eq]
              have e : fn.results = fn.results.toList.toArray := by simp
              rw [e, List.mapM_toArray]
              simp only [Sem.run_bind, Sem.run_map, h7, Result.andThen_ok, Sem.run_pure]
              rfl
            exact ⟨hdef, _, hrun, ⟨_, rfl⟩, I', s.st, h1, h2, h3.st, h5⟩
          cases e with
          | normal => obtain ⟨I', s', h1, h2, h3, h4⟩ := hq; exact done h1 h2 h3 h4
          | ret => obtain ⟨I', s', h1, h2, h3, h4⟩ := hq; exact done h1 h2 h3 h4
          | panic ch => obtain ⟨v, rfl, I', st', h1, h2, h3, hd, p, h4, h5⟩ := hq; exact h5.elim
          | exit id => obtain ⟨_, _, _, _, _, h4⟩ := hq; exact h4.elim
          | goto l => exact hq.elim
          | outgrown => exact hq.elim
        · obtain ⟨rfl, hv, I', st', h1, h2, h3, h4⟩ := hh
          exact ⟨hv, I', st', h1, h2, h3, u, by rw [settle_of hu]; exact mrep_mono h1 hu, h4⟩
      · cases hm
    · cases hm
  · cases hm
theorem Has.defs {P : Program} (hmix : P.follows .mixedOrders = true) {g : FuncId} {m : MFunc} (h : Has P g m) {nt np : Nat} {rs : List MRes} {c : MCode} (hm : m = ⟨nt, np, rs, c⟩) (hn : noRFm c = true) {ps : List PV} {u : PMode} {st st' : Store} (hlen : ps.length = np)
    (hw : xwp P c (fun ex s => xret rs (fun _ s => s = st') (fun _ _ => False) ex s) ⟨initEnv 0 ps, st⟩) : Defs P g ps u st u st' := by
  subst hm
  refine PDef.mono (h.pdef hmix hn hlen (Q := fun v s => v = u ∧ s = st') ?_) fun _ _ h => h
  have e : (fun (_ : PV) (s : Store) => u = u ∧ s = st') = fun _ s => s = st' := by funext _ s; simp
  rw [e]
  exact hw
end Go.Pv
