/- The compact code is met by the model's own: functions. -/
import Derived.Test.YtbjfmedpaohpnaaLSf
set_option linter.unusedSimpArgs false
namespace Go.Pv
variable {P : Program}

/-! ### Functions -/
def convRes (P : Program) : ResultVar → Option MRes
  | .tmp t => some (.tmp t)
  | .cell t T => (lay P T).map fun l => .cell t l.1 l.2
def convRess (P : Program) : List ResultVar → Option (List MRes)
  | [] => some []
  | r :: rs =>
    match convRes P r, convRess P rs with
    | some m, some ms => some (m :: ms)
    | _, _ => none
def resTmps : List ResultVar → List Nat
  | [] => []
  | .tmp t :: rs => t :: resTmps rs
  | .cell t _ :: rs => t :: resTmps rs
def convFunc (P : Program) (fn : Func) : Option MFunc :=
  match fn.body with
  | some c =>
    match convCode P ⟨fn.ntmps, []⟩ (keepCode c ++ resTmps fn.results.toList) c, convRess P fn.results.toList with
    | some m, some rs => if fn.params.size + fn.nfree ≤ fn.ntmps then some ⟨fn.ntmps, fn.params.size + fn.nfree, rs, m⟩ else none
    | _, _ => none
  | none => none

def resFn (tmps : Array Value) : ResultVar → Sem Value
  | .tmp t => pure (tmps.getD t undef)
  | .cell a t => do loadVar t (← asAddr (tmps.getD a undef))
theorem results_eq (fn : Func) (tmps : Array Value) : results fn tmps = (do
  let vs ← fn.results.mapM (resFn tmps)
  pure (if h : vs.size = 1 then vs[0] else .tuple vs)) := rfl

theorem results_sound {I : Imm} {s : PS} {w : World} {tmps : Array Value} (henv : ∀ t, vrep I (eget s.env t) (tmps.getD t undef)) (hs : SRep I s.st w) : ∀ (rs : List ResultVar) (ms : List MRes) {K : List PV → Prop},
    convRess P rs = some ms → mres s ms K → ∃ ps vs, K ps ∧ vreps I ps vs ∧
      (rs.mapM (resFn tmps)).run P w = .ok vs w
  | [], ms, K, hc, h => by
    simp only [convRess, Option.some.injEq] at hc
    subst hc
    exact ⟨[], [], h, by simp [vreps], rfl⟩
  | r :: rs, ms, K, hc, h => by
    simp only [convRess] at hc
    split at hc
    · rename_i m ms' hr hrs
      simp only [Option.some.injEq] at hc
      subst hc
      simp only [mres] at h
      cases r with
      | tmp t =>
        simp only [convRes, Option.some.injEq] at hr
        subst hr
        simp only [mres1] at h
        obtain ⟨ps, vs, h1, h2, h3⟩ := results_sound henv hs rs ms' hrs h
        refine ⟨_, tmps.getD t undef :: vs, h1, by simp only [vreps]; exact ⟨henv t, h2⟩, ?_⟩
        simp only [List.mapM_cons, Sem.run_bind, resFn, Sem.run_pure, Result.andThen_ok, h3]
      | cell t T =>
        simp only [convRes, Option.map_eq_some_iff] at hr
        obtain ⟨⟨k, a⟩, hl, rfl⟩ := hr
        simp only [mres1] at h
        obtain ⟨p, hK, hld⟩ := load_sound hl h
        obtain ⟨u, hu1, hu2⟩ := hld I w (tmps.getD t undef) hs (by simpa only [meval] using henv t)
        obtain ⟨ps, vs, h1, h2, h3⟩ := results_sound henv hs rs ms' hrs hK
        refine ⟨_, u :: vs, h1, by simp only [vreps]; exact ⟨hu2, h2⟩, ?_⟩
        have hload : (do loadVar T (← asAddr (tmps.getD t undef)) : Sem Value).run P w = .ok u w := by
          have hp : ∃ a, tmps.getD t undef = .pointer (some a) := by
            cases hv : tmps.getD t undef <;> rw [hv] at hu1 <;> try (simp [Instr.loadAt, Instr.sureAddr] at hu1; done)
            rename_i ao
            cases ao with
            | none => simp [Instr.loadAt, Instr.sureAddr] at hu1
            | some a => exact ⟨a, rfl⟩
          obtain ⟨ad, had⟩ := hp
          rw [had] at hu1 ⊢
          simp only [Instr.loadAt, Instr.sureAddr, Sem.run_bind, Sem.run_pure, Result.andThen_ok] at hu1
          simp only [asAddr, Sem.run_bind, Sem.run_pure, Result.andThen_ok, hu1]
        have hload' : (resFn tmps (.cell t T)).run P w = .ok u w := hload
        simp only [List.mapM_cons, Sem.run_bind, hload', Result.andThen_ok, h3, Sem.run_pure]
    · cases hc

theorem initEnv_spec {I : Imm} : ∀ {ps : List PV} {vs : List Value} (k : Nat), vreps I ps vs → ∀ t, vrep I (eget (initEnv k ps) t) ((List.replicate k undef ++ vs).toArray.getD t undef)
  | [], vs, k, h, t => by simp [initEnv, eget, vrep]
  | p :: ps, [], _, h, _ => by simp [vreps] at h
  | p :: ps, v :: vs, k, h, t => by
    simp only [vreps] at h
    simp only [initEnv, eget]
    by_cases hk : k = t
    · subst hk
      simp only [if_true]
      simpa using h.1
    · rw [if_neg hk]
      have ih := initEnv_spec (k + 1) h.2 t
      rcases Nat.lt_trichotomy t k with hlt | rfl | hgt
      · have : ∀ (qs : List PV) (m : Nat), t < m → eget (initEnv m qs) t = .any := by
          intro qs
          induction qs with
          | nil => intro m _; rfl
          | cons q qs ihq => intro m hm; simp only [initEnv, eget]; rw [if_neg (by omega)]; exact ihq (m + 1) (by omega)
        rw [this ps (k + 1) (by omega)]
        simp only [vrep]
      · exact absurd rfl hk
      · have e : (List.replicate k undef ++ v :: vs).toArray.getD t undef = (List.replicate (k + 1) undef ++ vs).toArray.getD t undef := by
          simp only [Array.getD_eq_getD_getElem?, List.getElem?_toArray]
          rw [List.getElem?_append_right (by simp; omega), List.getElem?_append_right (by simp; omega)]
          simp only [List.length_replicate]
          rw [show t - k = (t - (k + 1)) + 1 by omega, List.getElem?_cons_succ]
        rw [e]
        exact ih

/-! ### Leaving: marks and deferred calls -/
/-- How a frame is on its way out. -/
inductive PMode where
  | returning
  | panicking (p : PV)
def mrep (I : Imm) : PMode → FrameMode → Prop
  | .returning, u => u = .returning
  | .panicking p, u => ∃ v, u = .panicking [{ v, recovered := false }] ∧ vrep I p v
theorem mrep_mono {I I' : Imm} (h : I.le I') {m : PMode} {u : FrameMode} (hm : mrep I m u) : mrep I' m u := by
  cases m with
  | returning => exact hm
  | panicking p => obtain ⟨v, h1, h2⟩ := hm; exact ⟨v, h1, vrep_mono h _ _ h2⟩
/-- A deferred call: it returns; the mode behind it. -/
structure PDef (P : Program) (g : FuncId) (ps : List PV) (u : PMode) (st : Store) (Q : PMode → Store → Prop) : Prop where
  enters : Enters P g
  out : ∀ I w vs fu, mrep I u fu → SRep I st w → vreps I ps vs → CallsDIn Fence.wide 0 P g vs.toArray fu w fun e fu' w' => (∃ v, e = .returned v) ∧ Held I w (fun I' st' => ∃ u', mrep I' u' (settle fu') ∧ Q u' st') w'
def pleave (P : Program) : List (FuncId × List PV) → PMode → Store → (PMode → Store → Prop) → Prop
  | [], u, st, K => K u st
  | (g, ps) :: ds, u, st, K => PDef P g ps u st fun u' st' => pleave P ds u' st' K
def dsrep (I : Imm) : List (FuncId × List PV) → List Deferred → Prop
  | [], [] => True
  | (g, ps) :: ds, d :: L => (∃ (cap : Array Value) (us : List Value), d.target = .fn (.func g) cap ∧ d.args ++ cap = us.toArray ∧ vreps I ps us) ∧ dsrep I ds L
  | _, _ => False
theorem dsrep_dmono {I I' : Imm} (h : I.dle I') : ∀ {ds : List (FuncId × List PV)} {L : List Deferred}, dsrep I ds L → dsrep I' ds L
  | [], [], _ => trivial
  | [], _ :: _, h => h.elim
  | (_, _) :: _, [], h => h.elim
  | (g, ps) :: ds, d :: L, hr => by
    obtain ⟨⟨cap, us, h1, h2, h3⟩, h4⟩ := hr
    exact ⟨⟨cap, us, h1, h2, vreps_dmono h _ _ h3⟩, dsrep_dmono h h4⟩
/-- What is asked in the end: of the results; of a panic that goes on. -/
def pfin (rs : List MRes) (e : Env) (R E : PV → Store → Prop) : PMode → Store → Prop
  | .returning, st => mres ⟨e, st⟩ rs fun ps => R (tuplePV ps) st
  | .panicking p, st => E p st
theorem Wide.callsD {F : Fence} (h : Wide F) {n m : Nat} {g : FuncId} {args : Array Value} {u : FrameMode} {w : World} {R : Ending → FrameMode → World → Prop} (hc : CallsDIn Fence.wide n P g args u w R) : CallsDIn F m P g args u w R :=
  ⟨h.fn g, fun c cs hu _ => by
    obtain ⟨en, u', w2, fr, hR, hc, h6, h7, h8⟩ := hc.2 c cs hu (room_wide _)
    refine ⟨en, u', w2, fr, hR, ?_, h6, h7, h8⟩
    cases en with
    | returned v => exact StepsIn.mono (fun mm _ => h.fenced mm) hc
    | panicked ch => exact StepsIn.mono (fun mm _ => h.fenced mm) hc
    | outgrown => exact hc⟩
theorem leaves_sound {F : Fence} (hF : Wide F) {n : Nat} {fn : Func} {rs : List MRes} {tmps : Array Value} {e : Env} (hrs : convRess P fn.results.toList = some rs) {Q : PEnd → Store → Prop} {R E : PV → Store → Prop}
    (hR : ∀ p st, R p st → RetView .ret p st Q) (hE : ∀ p st, E p st → RetView .panic p st Q) {I0 : Imm} {w0 : World} :
    ∀ (L : List Deferred) (ds : List (FuncId × List PV)) (u : PMode) (fu : FrameMode) (I : Imm) (st : Store) (w : World), dsrep I ds (L.filter notMark) → (∀ r ∈ L.filterMap markOf, I0 r = none ∧ I r = some (.deferred (some []))) →
      (L.filterMap markOf).Nodup → I0.le I → Calm w0 w → SRep I st w → mrep I u fu → (∀ t, vrep I (eget e t) (tmps.getD t undef)) → pleave P ds u st (pfin rs e R E) →
      LeavesInM F n P fn tmps (fun en w' => Held I0 w0 (fun I' st' => ∃ pe, erep I' pe en ∧ Q pe st') w') L fu w
  | [], ds, u, fu, I, st, w, hds, hmk, hnd, hI, hw, hs, hu, henv, h => by
    cases ds with
    | cons d ds => obtain ⟨g, ps⟩ := d; exact (show False from hds).elim
    | nil =>
      simp only [pleave] at h
      cases u with
      | returning =>
        have hu : fu = .returning := hu
        subst hu
        simp only [pfin] at h
        obtain ⟨qs, us, h5, h6, h7⟩ := results_sound henv hs _ _ hrs h
        obtain ⟨p', st', hsee, hQ⟩ := hR _ _ h5
        have hrun : (results fn tmps).run P w = .ok (if hh : us.length = 1 then us[0] else .tuple us.toArray) w := by
          rw [results_eq]
          have e : fn.results = fn.results.toList.toArray := by simp
          rw [e, List.mapM_toArray]
          simp only [Sem.run_bind, Sem.run_map, h7, Result.andThen_ok, Sem.run_pure]
          rfl
        have hvt : vrep I (tuplePV qs) (if hh : us.length = 1 then us[0] else .tuple us.toArray) := by
          have hl := vreps_length h6
          unfold tuplePV
          split
          · match us, hl, h6 with
            | [u], _, h6 => simp only [vreps] at h6; simpa using h6.1
          · rename_i hne
            rw [dif_neg (by
              intro h1
              rw [h1] at hl
              cases qs with
              | nil => simp at hl
              | cons q qs =>
                cases qs with
                | nil => exact hne q rfl
                | cons => simp at hl)]
            simp only [vrep]
            exact ⟨us, rfl, h6⟩
        obtain ⟨I'', g1, g2, g3⟩ := hsee.out I w _ hs hvt
        exact ⟨_, hrun, I'', st', Imm.le_trans hI g1, hw, g2, .ret p', ⟨_, rfl, g3⟩, hQ⟩
      | panicking p =>
        obtain ⟨v, rfl, hv⟩ := hu
        simp only [pfin] at h
        obtain ⟨p', st'', hsee, hQ⟩ := hE _ _ h
        obtain ⟨I'', g1, g2, g3⟩ := hsee.out I w _ hs hv
        exact ⟨I'', st'', Imm.le_trans hI g1, hw, g2, .panic p', ⟨_, rfl, g3⟩, hQ⟩
  | d :: L, ds, u, fu, I, st, w, hds, hmk, hnd, hI, hw, hs, hu, henv, h => by
    have hrun : fu ≠ .run := by
      cases u with
      | returning => rw [show fu = .returning from hu]; simp
      | panicking p => obtain ⟨v, rfl, _⟩ := hu; simp
    refine ⟨hrun, ?_⟩
    by_cases hm : ∃ r, d.target = .collected r
    · obtain ⟨r, hr⟩ := hm
      have e1 : notMark d = false := by unfold notMark; rw [hr]
      have e2 : markOf d = some r := by unfold markOf; rw [hr]
      have e3 : (d :: L).filterMap markOf = r :: L.filterMap markOf := List.filterMap_cons_some e2
      rw [e3] at hmk hnd
      obtain ⟨hn1, hn2⟩ := List.nodup_cons.1 hnd
      obtain ⟨h0r, hIr⟩ := hmk r (by simp)
      have hwr := hs.imm _ _ hIr
      let I' : Imm := fun b => if b = r then none else I b
      have hdle : I.dle I' := fun b o hb hno => by
        show (if b = r then none else I b) = some o
        by_cases hbr : b = r
        · subst hbr; rw [hIr] at hb; cases hb; exact absurd rfl (hno _)
        · rw [if_neg hbr]; exact hb
      have hs' : SRep I' st (w.putObj r (.deferred none)) := by
        refine ⟨fun b o hb => ?_, fun b o hb => ?_, ?_⟩
        · have hb : (if b = r then none else I b) = some o := hb
          by_cases hbr : b = r
          · rw [if_pos hbr] at hb; cases hb
          · rw [if_neg hbr] at hb
            rw [World.putObj_heap_other hbr]
            exact hs.imm b o hb
        · obtain ⟨k1, r', k2, k3⟩ := hs.objs b o hb
          have hbr : b ≠ r := by rintro rfl; rw [hIr] at k1; cases k1
          refine ⟨?_, r', ?_, orep_dmono hdle k3⟩
          · show (if b = r then none else I b) = none
            rw [if_neg hbr]; exact k1
          · rw [World.putObj_heap_other hbr]; exact k2
        · rw [World.putObj_size]; exact hs.keys
      refine .inl ⟨r, w.putObj r (.deferred none), hr, run_takeDeferred hwr, ?_⟩
      refine leaves_sound hF hrs hR hE L ds u fu I' st _ ?_ (fun r' hr' => ?_) hn2 ?_ ?_ hs' ?_ ?_ h
      · refine dsrep_dmono hdle ?_
        rwa [List.filter_cons_of_neg (by rw [e1]; simp)] at hds
      · have := hmk r' (by simp [hr'])
        refine ⟨this.1, ?_⟩
        show (if r' = r then none else I r') = _
        rw [if_neg (by rintro rfl; exact hn1 hr')]
        exact this.2
      · intro b o hb
        show (if b = r then none else I b) = some o
        rw [if_neg (by rintro rfl; rw [h0r] at hb; cases hb)]
        exact hI b o hb
      · exact hw.trans ⟨rfl, rfl, rfl, by rw [World.putObj_size]; exact Nat.le_refl _⟩
      · cases u with
        | returning => exact hu
        | panicking p => obtain ⟨v, h1, h2⟩ := hu; exact ⟨v, h1, vrep_dmono hdle _ _ h2⟩
      · exact fun t => vrep_dmono hdle _ _ (henv t)
    · have e1 : notMark d = true := by unfold notMark; split; (· rename_i r hr; exact absurd ⟨r, hr⟩ hm); rfl
      have e2 : markOf d = none := by unfold markOf; split; (· rename_i r hr; exact absurd ⟨r, hr⟩ hm); rfl
      have e3 : (d :: L).filterMap markOf = L.filterMap markOf := List.filterMap_cons_none e2
      rw [e3] at hmk hnd
      rw [List.filter_cons_of_pos e1] at hds
      cases ds with
      | nil => exact (show False from hds).elim
      | cons gp ds =>
        obtain ⟨g, ps⟩ := gp
        obtain ⟨⟨cap, us, k1, k2, k3⟩, hds⟩ := hds
        simp only [pleave] at h
        have hent := h.enters
        refine .inr ⟨fun hx => (by rw [hF.depth] at hx; simp at hx), .func g, cap, g, d.args ++ cap, k1, ?_, fun g' _ => hF.fn g', ?_⟩
        · rw [k1]
          simp only [invoke, callFunc_run hent]
        · rw [k2]
          refine (hF.callsD (h.out I w us fu hu hs k3)).mono fun en u' w' hh => ?_
          obtain ⟨⟨v, rfl⟩, I', st', g1, g2, g3, m', g4, g5⟩ := hh
          exact leaves_sound hF hrs hR hE L ds m' (settle u') I' st' w' (dsrep_dmono g1.d hds) (fun r hr => ⟨(hmk r hr).1, g1 _ _ (hmk r hr).2⟩) hnd (Imm.le_trans hI g1) (hw.trans g2) g3 g4 (fun t => vrep_mono g1 _ _ (henv t)) g5

theorem start_rel {fn : Func} {ps : List PV} {st : Store} {I : Imm} {w : World} {vs : List Value} (hpar : fn.params.size + fn.nfree ≤ fn.ntmps) (hlen : ps.length = fn.params.size + fn.nfree) (hs : SRep I st w) (hv : vreps I ps vs) (pn : List Nat) (nm : Bool) :
    Rel ⟨fn.ntmps, pn⟩ ⟨[], [], I, nm⟩ I ⟨initEnv 0 ps, st⟩ { tmps := vs.toArray ++ Array.replicate (fn.ntmps - vs.toArray.size) undef, defers := [] } w := by
  have hvl := vreps_length hv
  refine ⟨fun t => ?_, by simp; omega, ⟨I.le_refl, rfl, by simp, by simp, fun _ => rfl, by simp⟩, hs⟩
  have h1 := initEnv_spec 0 hv t
  have e : (vs.toArray ++ Array.replicate (fn.ntmps - vs.toArray.size) undef).getD t undef = (List.replicate 0 undef ++ vs).toArray.getD t undef := by
    simp only [List.replicate_zero, List.nil_append, Array.getD_eq_getD_getElem?]
    rcases Nat.lt_or_ge t vs.length with hlt | hge
    · rw [Array.getElem?_append_left (by simpa using hlt)]
    · rw [Array.getElem?_append_right (by simpa using hge)]
      rw [Array.getElem?_replicate]
      simp only [List.getElem?_toArray, List.getElem?_eq_none hge]
      split <;> rfl
  rw [e]
  exact h1

theorem pcalls_of_mwp (hmix : P.follows .mixedOrders = true) {g : FuncId} {fn : Func} {m : MFunc} (hf : P.funcs[g]? = some fn) (hname : (fn.name == "runtime.NumGoroutine") = false) (hm : convFunc P fn = some m)
    {ps : List PV} {st : Store} {Q : PEnd → Store → Prop} (hlen : ps.length = m.nparams) {R E : PV → Store → Prop} (hR : ∀ p st, R p st → RetView .ret p st Q) (hE : ∀ p st, E p st → RetView .panic p st Q) (h : mwp P m.body (retPost m.results R E) ⟨initEnv 0 ps, st⟩) : PCalls P g ps st Q := by
  unfold convFunc at hm
  split at hm
  · rename_i c hb
    split at hm
    · rename_i mc rs hmc hrs
      split at hm
      · rename_i hpar
        simp only [Option.some.injEq] at hm
        subst hm
        refine .inl ⟨⟨fn, hf, hname, by rw [hb]; rfl⟩, fun I w vs hs hv => ?_⟩
        have hW : Wide Fence.wide := ⟨fun _ => trivial, rfl, rfl⟩
        refine callsIn_wide (n := 0).1 (callsIn_of_wp_marks hf hb trivial ?_)
        have hrel := start_rel hpar hlen hs hv [] false
        refine wpIn_mono (code_sound hmix hW c mc hmc (.inl ⟨rfl, rfl⟩) _ I _ _ w hrel h) fun e a' w' hq => ?_
        have fin : ∀ {s : PS} {I' : Imm}, I.le I' → Calm w w' → Rel ⟨fn.ntmps, []⟩ ⟨[], [], I, false⟩ I' s a' w' → retPost rs R E .normal s → LeavesInM Fence.wide 0 P fn a'.tmps (fun en w' => Held I w (fun I' st' => ∃ pe, erep I' pe en ∧ Q pe st') w') a'.defers .returning w' := by
          intro s I' h1 h2 h3 h4
          have hd := h3.fix.defers
          exact leaves_sound hW hrs hR hE a'.defers [] .returning .returning I' s.st w' (by rw [hd]; trivial) h3.fix.marks h3.fix.nodup h1 h2 h3.st rfl h3.env h4
        cases e with
        | normal =>
          obtain ⟨I', s', h1, h2, h3, h4⟩ := hq
          exact fin h1 h2 h3 h4
        | ret =>
          obtain ⟨I', s', h1, h2, h3, h4⟩ := hq
          exact fin h1 h2 h3 h4
        | panic ch =>
          obtain ⟨v, rfl, I', st', h1, h2, h3, hd, p, h4, h5⟩ := hq
          have hd' := hd.defers
          exact leaves_sound hW hrs hR hE (e := []) a'.defers [] (.panicking p) _ I' st' w' (by rw [hd']; trivial) hd.marks hd.nodup h1 h2 h3 ⟨v, rfl, h4⟩ (fun t => by simp only [eget, vrep]) h5
        | exit id => obtain ⟨_, _, _, _, _, h4⟩ := hq; exact h4.elim
        | goto l => exact hq.elim
        | outgrown => exact hq.elim
      · cases hm
    · cases hm
  · cases hm

/-! ### Rounds -/
theorem eputs_spec {I : Imm} : ∀ (ts : List Nat) (ps : List PV) (vs : List Value) (e : Env) (tmps : Array Value), ts.length = ps.length → vreps I ps vs → (∀ t ∈ ts, t < tmps.size) → (∀ t, vrep I (eget e t) (tmps.getD t undef)) →
    ((ts.zip vs).foldl (fun (tmps : Array Value) (q : Nat × Value) => tmps.setIfInBounds q.1 q.2) tmps).size = tmps.size ∧
    ∀ t, vrep I (eget (eputs e ts ps) t) (((ts.zip vs).foldl (fun (tmps : Array Value) (q : Nat × Value) => tmps.setIfInBounds q.1 q.2) tmps).getD t undef)
  | [], [], vs, e, tmps, _, _, _, h => ⟨by simp, by simpa [eputs] using h⟩
  | t :: ts, p :: ps, [], e, tmps, _, h, _, _ => by simp [vreps] at h
  | t :: ts, p :: ps, v :: vs, e, tmps, hl, hr, hb, h => by
    simp only [vreps] at hr
    simp only [List.zip_cons_cons, List.foldl_cons, eputs]
    have ht := hb t (by simp)
    have ih := eputs_spec ts ps vs (eput e (some t) p) (tmps.setIfInBounds t v) (by simpa using hl) hr.2 (fun u hu => by simpa using hb u (by simp [hu])) fun u => by
      by_cases htu : t = u
      · subst htu
        rw [eget_eput_same]
        have : (tmps.setIfInBounds t v).getD t undef = v := by simp [ht]
        rw [this]; exact hr.1
      · rw [eget_eput_ne _ _ _ _ htu]
        have : (tmps.setIfInBounds t v).getD u undef = tmps.getD u undef := by simp [Array.getElem?_setIfInBounds, htu]
        rw [this]; exact h u
    exact ⟨by rw [ih.1]; simp, ih.2⟩
theorem SRep.putLoop {I : Imm} {st : Store} {w : World} (hs : SRep I st w) {l : Nat} {o o' : PObj} {r' : Obj} (hb : sget st l = some o) (hr : orep I o' r') : SRep I (sset st l o') (w.putObj l r') ∧ Calm w (w.putObj l r') :=
  ⟨hs.put hb hr World.putObj_size (World.putObj_heap_same (hs.obj_lt hb)) (fun c hc => World.putObj_heap_other hc), ⟨rfl, rfl, rfl, by rw [World.putObj_size]; exact Nat.le_refl _⟩⟩
theorem pround_of_mwp (hmix : P.follows .mixedOrders = true) {l : Nat} {key : LoopKey} {params : List Nat} {ma mb : MCode} (hconv : key.Conv P params ma mb) {e : Env} {st : Store} (hget : sget st l = some (.loop key e .ready none))
    {args : List PV} (hlen : params.length = args.length) {Q : PEnd → Store → Prop} (h : mwp P ma (roundA P l mb Q) ⟨eputs e params args, st⟩) : PRound P l args st Q := by
  refine ⟨fun I w vs hs ha => ?_⟩
  obtain ⟨hpar, hlt, hn1, hn2, N, keep, hN, hca, hcb⟩ := hconv
  obtain ⟨hIl, r, hw, fn, tmps, D, rfl, hsz, henv⟩ := hs.objs _ _ hget
  have hvl := vreps_length ha
  have hpsz : key.params.size = vs.length := by rw [← Array.length_toList, hpar, hlen, hvl]
  have hz : (key.params.zip vs.toArray).foldl (fun (tmps : Array Value) (q : Tmp × Value) => tmps.setIfInBounds q.1 q.2) tmps = (params.zip vs).foldl (fun (tmps : Array Value) (q : Nat × Value) => tmps.setIfInBounds q.1 q.2) tmps := by
    rw [← Array.foldl_toList, Array.toList_zip, hpar]
  obtain ⟨hsz2, henv2⟩ := eputs_spec params args vs e tmps hlen ha (fun t ht => by rw [hsz]; exact hlt t ht) henv
  refine ⟨_, hw, hpsz, ?_⟩
  have hW : Wide (Fence.wide.inRound l) := ⟨fun _ => trivial, rfl, rfl⟩
  refine roundIn_of_wpIn trivial ?_
  show key.assign.wpIn _ _ P _ { tmps := (key.params.zip vs.toArray).foldl (fun (tmps : Array Value) (q : Tmp × Value) => tmps.setIfInBounds q.1 q.2) tmps, defers := [] } w
  rw [hz]
  have hrel : Rel N ⟨[], [], I, true⟩ I ⟨eputs e params args, st⟩ { tmps := (params.zip vs).foldl (fun (tmps : Array Value) (q : Nat × Value) => tmps.setIfInBounds q.1 q.2) tmps, defers := [] } w :=
    ⟨henv2, by show Array.size _ = _; rw [hsz2, hsz, hN], ⟨I.le_refl, rfl, by simp, by simp, fun _ => rfl, by simp⟩, hs⟩
  refine wpIn_mono (code_sound hmix hW key.assign ma hca (.inr hn1) _ I _ _ w hrel h) fun ex a1 w1 hq => ?_
  cases ex with
  | normal =>
    obtain ⟨I1, s1, h1, h2, h3, h4⟩ := hq
    simp only [roundA] at h4
    split at h4
    · rename_i key1 e1 pend1 hget1
      obtain ⟨-, r1, hw1, fn1, tmps1, D1, rfl, hsz1, henv1⟩ := h3.st.objs _ _ hget1
      obtain ⟨hs2, hc2⟩ := h3.st.putLoop (o' := .loop key1 e1 .busy pend1) (r' := .loop { state := .busy, pending := pend1, fn := fn1, tmps := tmps1, params := key1.params, assign := key1.assign, body := key1.body, defers := D1 }) hget1 ⟨fn1, tmps1, D1, rfl, hsz1, henv1⟩
      refine ⟨_, run_beginRound hw1 rfl, ?_⟩
      refine wpIn_mono (code_sound hmix hW key.body mb hcb (.inr hn2) _ I1 ⟨s1.env, sset s1.st l (.loop key1 e1 .busy pend1)⟩ a1 _ ⟨h3.env, h3.size, h3.fix, hs2⟩ h4) fun ex a3 w3 hq => ?_
      have hc : Calm w _ := h2.trans hc2
      have fin : ∀ (jump : Option Code) (st3 : Store) (I3 : Imm) (key' : LoopKey) (e' : Env) (state' : LoopState) (pend' : Option Code), I1.le I3 → Calm (w1.putObj l (.loop { state := .busy, pending := pend1, fn := fn1, tmps := tmps1, params := key1.params, assign := key1.assign, body := key1.body, defers := D1 })) w3 → SRep I3 st3 w3 →
          sget st3 l = some (.loop key' e' state' pend') → Q (.ret (.bool jump.isNone)) (sset st3 l (.loop key' e' (if jump.isNone then .ready else .done) jump)) →
          ∃ v w', (Instr.endRound l jump).run P w3 = .ok v w' ∧ Held I w (fun I' st' => ∃ pe, erep I' pe (.returned v) ∧ Q pe st') w' := by
        intro jump st3 I3 key' e' state' pend' g1 g2 g3 hget3 hQ
        obtain ⟨-, r3, hw3, fn3, tmps3, D3, rfl, hsz3, henv3⟩ := g3.objs _ _ hget3
        obtain ⟨hs4, hc4⟩ := g3.putLoop (o' := .loop key' e' (if jump.isNone then .ready else .done) jump) (r' := .loop { state := if jump.isNone then .ready else .done, pending := jump, fn := fn3, tmps := tmps3, params := key'.params, assign := key'.assign, body := key'.body, defers := D3 }) hget3 ⟨fn3, tmps3, D3, rfl, hsz3, henv3⟩
        exact ⟨_, _, run_endRound jump hw3, I3, _, Imm.le_trans h1 g1, (hc.trans g2).trans hc4, hs4, .ret (.bool jump.isNone), ⟨_, rfl, by simp only [vrep]⟩, hQ⟩
      cases ex with
      | normal =>
        obtain ⟨I3, s3, g1, g2, g3, g4⟩ := hq
        simp only [roundB] at g4
        split at g4
        · rename_i key' e' state' pend' hget3
          exact fin none s3.st I3 key' e' state' pend' g1 g2 g3.st hget3 g4
        · exact g4.elim
      | ret =>
        obtain ⟨I3, s3, g1, g2, g3, g4⟩ := hq
        simp only [roundB] at g4
        split at g4
        · rename_i key' e' state' pend' hget3
          exact fin (some .ret) s3.st I3 key' e' state' pend' g1 g2 g3.st hget3 g4
        · exact g4.elim
      | exit id =>
        obtain ⟨I3, s3, g1, g2, g3, g4⟩ := hq
        simp only [roundB] at g4
        split at g4
        · rename_i key' e' state' pend' hget3
          exact fin (some (.exit id)) s3.st I3 key' e' state' pend' g1 g2 g3.st hget3 g4
        · exact g4.elim
      | panic ch =>
        obtain ⟨v, rfl, I', st', g1, g2, g3, hd, p, g4, g5⟩ := hq
        simp only [panicPost, roundB] at g5
      | goto l => exact hq.elim
      | outgrown => exact hq.elim
    · exact h4.elim
  | ret => obtain ⟨I1, s1, h1, h2, h3, h4⟩ := hq; exact h4.elim
  | exit id => obtain ⟨I1, s1, h1, h2, h3, h4⟩ := hq; exact h4.elim
  | panic ch => obtain ⟨v, rfl, I', st', g1, g2, g3, hd, p, g4, g5⟩ := hq; exact g5.elim
  | goto l => exact hq.elim
  | outgrown => exact hq.elim

end Go.Pv
