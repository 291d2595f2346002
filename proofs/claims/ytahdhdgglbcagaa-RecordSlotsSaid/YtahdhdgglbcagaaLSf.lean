/- The compact code is met by the model's own: control, functions. -/
import Derived.Test.YtahdhdgglbcagaaLSe
set_option linter.unusedSimpArgs false
namespace Go.Pv
variable {P : Program}

section
variable {F : Fence} {n : Nat} {Q : Exit → Act → World → Prop} {a : Act} {w : World}

/-- A loop whose measure stands in no slot. -/
theorem wpIn_loop_ghost {c : Code} (J : Nat → Act → World → Prop) (h₀ : ∃ j, J j a w)
    (round : ∀ j a w, J j a w → c.wpIn F n P (Exit.then (fun a' w' => ∃ i, i < j ∧ J i a' w') Q) a w) : (Code.loop c).wpIn F n P Q a w := by
  intro b k cs hro hb hr
  have key : ∀ j a w, J j a w →
      ∃ e a' w', Q e a' w' ∧ ArrivesIn (Machine.fenced P F) P (lone (b.atR a (.code c :: .inLoop c :: k)) cs w) b k cs e a' w' := by
    intro j
    induction j using Nat.strongRecOn with
    | _ j ih =>
      intro a w hI
      obtain ⟨e, a₁, w₁, hq, harr⟩ := round j a w hI b (.inLoop c :: k) cs hro hb hr
      cases e with
      | normal =>
        obtain ⟨i, hlt, hI₁⟩ := hq
        obtain ⟨e₂, a₂, w₂, hq₂, harr₂⟩ := ih i hlt a₁ w₁ hI₁
        exact ⟨e₂, a₂, w₂, hq₂, .of_steps (StepsIn.trans harr (.one (fenced_calm hb hr rfl) stepR_inLoop)) harr₂⟩
      | exit id => exact ⟨_, a₁, w₁, hq, .pass (x := .inLoop c) rfl (fun _ _ => .inl (by simp)) harr⟩
      | goto l => exact ⟨_, a₁, w₁, hq, .pass (x := .inLoop c) rfl (fun _ _ => .inl (by simp)) harr⟩
      | ret => exact ⟨_, a₁, w₁, hq, .pass (x := .inLoop c) rfl (fun _ _ => .inl (by simp)) harr⟩
      | panic ch => exact ⟨_, a₁, w₁, hq, .pass (x := .inLoop c) rfl (fun _ _ => .inl (by simp)) harr⟩
      | outgrown => exact ⟨_, a₁, w₁, hq, .pass (x := .inLoop c) rfl (fun _ _ => .inl (by simp)) harr⟩
  obtain ⟨j, hj⟩ := h₀
  obtain ⟨e, a', w', hq, harr⟩ := key j a w hj
  exact ⟨e, a', w', hq, .of_steps (.one (fenced_calm hb hr rfl) stepR_loop) harr⟩

theorem stepR_scope {b : Frame} {k : List Item} {cs : List Frame} {c : Code} : step P (lone (b.atR a (.code (.scope c) :: k)) cs w) = .next (lone (b.atR a (.code c :: .inScope c :: k)) cs w) :=
  step_lone_go (by simp [stepG, stepG.exec, Frame.atR])
theorem stepR_inScope {b : Frame} {k : List Item} {cs : List Frame} {c : Code} : step P (lone (b.atR a (.inScope c :: k)) cs w) = .next (lone (b.atR a k) cs w) :=
  step_lone_go (by simp [stepG, stepG.exec, Frame.atR])
theorem wpIn_scope {c : Code} (h : c.wpIn F n P Q a w) (hg : ∀ l a w, ¬ Q (.goto l) a w) : (Code.scope c).wpIn F n P Q a w := by
  intro b k cs hro hb hr
  have h0 : (lone (b.atR a (.code (.scope c) :: k)) cs w).fenced P F := fenced_calm hb hr rfl
  obtain ⟨e, a₁, w₁, hq, harr⟩ := h b (.inScope c :: k) cs hro hb hr
  cases e with
  | normal => exact ⟨.normal, a₁, w₁, hq, .head h0 stepR_scope (StepsIn.trans harr (.one (fenced_calm hb hr rfl) stepR_inScope))⟩
  | exit id =>
    have hx : exitTo id (.inScope c :: k) = exitTo id k := by simp [exitTo]
    exact ⟨.exit id, a₁, w₁, hq, fun k' hk => .head h0 stepR_scope (harr.1 k' (by rw [hx]; exact hk)),
      fun hr' hk => let ⟨k₁, h1, h2⟩ := harr.2 hr' (by rw [hx]; exact hk); ⟨k₁, h1, .head h0 stepR_scope h2⟩⟩
  | goto l => exact (hg _ _ _ hq).elim
  | ret => exact ⟨_, a₁, w₁, hq, .of_steps (.one h0 stepR_scope) harr⟩
  | panic ch => exact ⟨_, a₁, w₁, hq, .of_steps (.one h0 stepR_scope) harr⟩
  | outgrown => exact ⟨_, a₁, w₁, hq, .of_steps (.one h0 stepR_scope) harr⟩
end

theorem Rel.kill {N : Nat} {D : List Deferred} {I : Imm} {e : Env} {st : Store} {a : Act} {w : World} (h : Rel N D I ⟨e, st⟩ a w) (ks : List Nat) : Rel N D I ⟨ekill ks e, st⟩ a w :=
  h.weaken fun t => eget_ekill ks t e

theorem Rel.view {N : Nat} {D : List Deferred} {I : Imm} {s s' : PS} {a : Act} {w : World} (h : Rel N D I s a w) (hv : View s s') : ∃ I', I.le I' ∧ Rel N D I' s' a w := by
  obtain ⟨I', h1, h2, h3⟩ := hv I a.tmps w h.env h.st
  exact ⟨I', h1, h2, h.size, h.defers, h3⟩

theorem code_sound (hmix : P.follows .mixedOrders = true) {F : Fence} {n : Nat} (hF : Wide F) {N : Nat} {D : List Deferred} {keep : List Nat} : ∀ (c : Code) (m : MCode), convCode P N keep c = some m →
    ∀ (Q : MPost) (I : Imm) (s : PS) (a : Act) (w : World), Rel N D I s a w → mwp P m Q s → c.wpIn F n P (lift N D I w Q) a w
  | .skip, m, hc, Q, I, s, a, w, hr, h => by
    simp only [convCode, Option.some.injEq] at hc
    subst hc
    exact wpIn_skip ⟨I, s, I.le_refl, Calm.refl w, hr, h⟩
  | .label l, m, hc, Q, I, s, a, w, hr, h => by
    simp only [convCode, Option.some.injEq] at hc
    subst hc
    exact wpIn_label ⟨I, s, I.le_refl, Calm.refl w, hr, h⟩
  | .ret, m, hc, Q, I, s, a, w, hr, h => by
    simp only [convCode, Option.some.injEq] at hc
    subst hc
    exact wpIn_ret ⟨I, s, I.le_refl, Calm.refl w, hr, h⟩
  | .exit id, m, hc, Q, I, s, a, w, hr, h => by
    simp only [convCode, Option.some.injEq] at hc
    subst hc
    exact wpIn_exit ⟨I, s, I.le_refl, Calm.refl w, hr, h⟩
  | .goto l, m, hc, _, _, _, _, _, _, _ => by simp [convCode] at hc
  | .refuse l, m, hc, _, _, _, _, _, _, _ => by simp [convCode] at hc
  | .rangeFunc .., m, hc, _, _, _, _, _, _, _ => by simp [convCode] at hc
  | .region id ops false, m, hc, Q, I, s, a, w, hr, h => by
    simp only [convCode, Option.map_eq_some_iff] at hc
    obtain ⟨l, hl, rfl⟩ := hc
    simp only [mwp] at h
    refine wpIn_region ?_
    have := region_sound (n := n) hF (D := D) (Q := lift N D I w Q) (I0 := I) (w0 := w) (K := fun s' => Q .normal ⟨ekill (killOf keep ops) s'.env, s'.st⟩) (QP := panicPost Q)
      (fun a' w' ⟨I', s', h1, h2, h3, h4⟩ => ⟨I', _, h1, h2, h3.kill _, h4⟩) (fun ch a' w' hd hh => ⟨hd, hh⟩)
      ops.toList 0 l (by simp) hl I s a w I.le_refl (Calm.refl w) hr h
    simpa [List.range_eq_range'] using this
  | .region id ops true, m, hc, Q, I, s, a, w, hr, h => by
    simp only [convCode] at hc
    split at hc
    · rename_i l hl
      split at hc
      · rename_i L hL
        split at hc
        · rename_i r hr0
          split at hc
          · rename_i hb
            simp only [Bool.and_eq_true, beq_iff_eq] at hb
            obtain ⟨⟨hok, hsel⟩, hlen⟩ := hb
            simp only [Option.some.injEq] at hc
            subst hc
            obtain ⟨e, st⟩ := s
            -- the class of stores
            obtain ⟨Cl, hCl0, h⟩ : ∃ Cl : Store → Prop, Cl st ∧ mdraw P Cl r ⟨e, st⟩ (fun s' => Q .normal ⟨ekill (killOf keep ops) s'.env, s'.st⟩) (panicPost Q) := by
              cases hlate : (r.any fun x => x.1 == .late) with
              | true =>
                rw [hlate] at h
                simp only [mwp] at h
                obtain ⟨M, hM⟩ := h
                exact ⟨_, fun b _ o ho => ho, hM⟩
              | false =>
                rw [hlate] at h
                simp only [mwp] at h
                exact ⟨_, trivial, h⟩
            have hhd : ∀ x ∈ L, ((L.filter (·.1)).map (·.2)).contains x.2 = x.1 := by
              have key : ∀ (L' : List (Bool × Nat)) (listed : Array Bool), orderOK ops ((L.filter (·.1)).map (·.2)) L' listed = true → (∀ x ∈ L', x ∈ L) → ∀ x ∈ L', ((L.filter (·.1)).map (·.2)).contains x.2 = x.1 := by
                intro L'
                induction L' with
                | nil => intro _ _ _ x hx; cases hx
                | cons y L' ih =>
                  obtain ⟨yh, yi⟩ := y
                  intro listed hB hsub x hx
                  simp only [orderOK, Bool.and_eq_true] at hB
                  rcases List.mem_cons.1 hx with rfl | hx
                  · cases yh with
                    | true =>
                      have := hsub (true, yi) (by simp)
                      simp only [List.contains_iff_mem, List.mem_map, List.mem_filter]
                      exact ⟨_, ⟨this, rfl⟩, rfl⟩
                    | false =>
                      have h1 := hB.1
                      simp only [Bool.false_eq_true, if_false, Bool.and_eq_true, Bool.not_eq_true'] at h1
                      exact h1.1.1
                  · exact ih _ hB.2 (fun z hz => hsub z (by simp [hz])) x hx
              exact key L _ hok (fun x hx => hx)
            have hlex := draw_lex hl L r ⟨e, st⟩ hr0 hhd h
            have hclosed : Closed ops (Array.replicate ops.size false) := by
              intro j oj hj hlj
              exfalso
              rcases Nat.lt_or_ge j ops.size with hlt | hge
              · simp [hlt] at hlj
              · simp [Array.getElem?_eq_none, hge] at hlj
            have hany := pAny_order L (Array.replicate ops.size false) (eget e) st hok (fun x hx hx1 => by rw [hhd x hx, hx1]) hclosed hCl0 hlex
            rw [hlen] at hany
            refine wpIn_region_any hmix ?_
            have hr' : RelF N D I (eget e) st a { w with drawn := w.drawn + 1 } := ⟨hr.env, hr.size, hr.defers, hr.st.drew⟩
            exact wpAnyIn_of_pAny (n := n) hF (N := N) (D := D) (ops := ops) (QP := panicPost Q) (K := fun f st => ∃ e', (∀ t, eget e' t = f t) ∧ Q .normal ⟨ekill (killOf keep ops) e', st⟩) (Q := lift N D I w Q) (I0 := I) (w0 := w)
              (fun i o ho => convInsts_all hl o (by rw [Array.mem_toList_iff]; exact Array.mem_of_getElem? ho))
              (fun a' w' ⟨I', f, st', h1, h2, h3, e', h4, h5⟩ => ⟨I', _, h1, h2, (h3.rel h4).kill _, h5⟩)
              (fun ch a' w' hd hh => ⟨hd, hh⟩) _ _ _ _ I a { w with drawn := w.drawn + 1 } hCl0 I.le_refl ⟨rfl, rfl, rfl, Nat.le_refl _⟩ hr' hany
          · cases hc
        · cases hc
      · cases hc
    · cases hc
  | .seq x y, m, hc, Q, I, s, a, w, hr, h => by
    simp only [convCode] at hc
    split at hc
    · rename_i mx my hx hy
      simp only [Option.some.injEq] at hc
      subst hc
      simp only [mwp] at h
      refine wpIn_seq (wpIn_mono (code_sound hmix hF x mx hx _ I s a w hr h) fun e a' w' hq => ?_)
      cases e with
      | normal =>
        obtain ⟨I', s', h1, h2, h3, h4⟩ := hq
        exact wpIn_mono (code_sound hmix hF y my hy Q I' s' a' w' h3 h4) fun e a'' w'' hq => lift_from h1 h2 _ _ _ hq
      | exit id => exact hq
      | ret => exact hq
      | panic ch => exact hq
      | goto l => exact hq
      | outgrown => exact hq
    · cases hc
  | .cond c x y, m, hc, Q, I, s, a, w, hr, h => by
    simp only [convCode] at hc
    split at hc
    · rename_i mc mx my hcx hx hy
      simp only [Option.some.injEq] at hc
      subst hc
      simp only [mwp] at h
      split at h
      · rename_i t ht
        have hv := hr.x hcx
        rw [ht] at hv
        simp only [vrep] at hv
        exact wpIn_cond_split hv (fun e => code_sound hmix hF x mx hx Q I s a w hr (h.1 e)) (fun e => code_sound hmix hF y my hy Q I s a w hr (h.2 e))
      · exact h.elim
    · cases hc
  | .block id c, m, hc, Q, I, s, a, w, hr, h => by
    simp only [convCode, Option.map_eq_some_iff] at hc
    obtain ⟨mc, hmc, rfl⟩ := hc
    simp only [mwp] at h
    refine wpIn_block (wpIn_mono (code_sound hmix hF c mc hmc _ I s a w hr h) fun e a' w' hq => ?_)
    cases e with
    | normal => exact hq
    | exit j =>
      simp only [Exit.inBlock]
      obtain ⟨I', s', h1, h2, h3, h4⟩ := hq
      simp only [minBlock] at h4
      by_cases hj : j = id
      · simp only [hj, if_true] at h4 ⊢
        exact ⟨I', s', h1, h2, h3, h4⟩
      · simp only [hj, if_false] at h4 ⊢
        exact ⟨I', s', h1, h2, h3, h4⟩
    | ret => exact hq
    | panic ch => exact hq
    | goto l => exact hq
    | outgrown => exact hq
  | .loop c, m, hc, Q, I, s, a, w, hr, h => by
    simp only [convCode, Option.map_eq_some_iff] at hc
    obtain ⟨mc, hmc, rfl⟩ := hc
    simp only [mwp] at h
    obtain ⟨J, ⟨j0, s0, hv0, hj0⟩, hround⟩ := h
    obtain ⟨I1, hI1, hr1⟩ := hr.view hv0
    refine wpIn_loop_ghost (fun j a' w' => HRel N D I w (J j) a' w') ⟨j0, I1, s0, hI1, Calm.refl w, hr1, hj0⟩ fun j a' w' ⟨I', s', h1, h2, h3, h4⟩ => ?_
    refine wpIn_mono (code_sound hmix hF c mc hmc _ I' s' a' w' h3 (hround j s' h4)) fun e a'' w'' hq => ?_
    cases e with
    | normal =>
      obtain ⟨I'', s1, g1, g2, g3, i, g4, s'', g5, g6⟩ := hq
      obtain ⟨I3, hI3, hr3⟩ := g3.view g5
      exact ⟨i, g4, I3, s'', Imm.le_trans (Imm.le_trans h1 g1) hI3, h2.trans g2, hr3, g6⟩
    | exit id => exact HRel.from h1 h2 hq
    | ret => exact HRel.from h1 h2 hq
    | panic ch => exact ⟨hq.1, HPan.from h1 h2 hq.2⟩
    | goto l => exact hq
    | outgrown => exact hq
  | .scope c, m, hc, Q, I, s, a, w, hr, h => by
    simp only [convCode] at hc
    exact wpIn_scope (code_sound hmix hF c m hc Q I s a w hr h) (fun l a' w' hq => hq)

/-! ### Functions -/
def convRes (P : Program) : ResultVar → Option MRes
  | .tmp t => some (.tmp t)
  | .cell t T => (lay P T).map fun l => .cell t l.1 l.2
def convRess (P : Program) : List ResultVar → Option (List MRes)
  | [] => some []
  | r :: rs =>
    match convRes P r, convRess P rs with
    | some m, some ms => some (m :: ms)
    | _, _ => none
def resTmps : List ResultVar → List Nat
  | [] => []
  | .tmp t :: rs => t :: resTmps rs
  | .cell t _ :: rs => t :: resTmps rs
def noDefer : Code → Bool
  | .region _ ops _ => ops.toList.all fun o => opPlain o.op
  | .seq a b | .cond _ a b => noDefer a && noDefer b
  | .block _ c | .loop c | .scope c => noDefer c
  | .rangeFunc .. => false
  | _ => true

def convFunc (P : Program) (fn : Func) : Option MFunc :=
  match fn.body with
  | some c =>
    match convCode P fn.ntmps (keepCode c ++ resTmps fn.results.toList) c, convRess P fn.results.toList with
    | some m, some rs => if fn.params.size + fn.nfree ≤ fn.ntmps then some ⟨fn.ntmps, fn.params.size + fn.nfree, rs, m⟩ else none
    | _, _ => none
  | none => none

def resFn (tmps : Array Value) : ResultVar → Sem Value
  | .tmp t => pure (tmps.getD t undef)
  | .cell a t => do loadVar t (← asAddr (tmps.getD a undef))
theorem results_eq (fn : Func) (tmps : Array Value) : results fn tmps = (do
  let vs ← fn.results.mapM (resFn tmps)
  pure (if h : vs.size = 1 then vs[0] else .tuple vs)) := rfl

theorem results_sound {I : Imm} {s : PS} {w : World} {tmps : Array Value} (henv : ∀ t, vrep I (eget s.env t) (tmps.getD t undef)) (hs : SRep I s.st w) : ∀ (rs : List ResultVar) (ms : List MRes) {K : List PV → Prop},
    convRess P rs = some ms → mres s ms K → ∃ ps vs, K ps ∧ vreps I ps vs ∧
      (rs.mapM (resFn tmps)).run P w = .ok vs w
  | [], ms, K, hc, h => by
    simp only [convRess, Option.some.injEq] at hc
    subst hc
    exact ⟨[], [], h, by simp [vreps], rfl⟩
  | r :: rs, ms, K, hc, h => by
    simp only [convRess] at hc
    split at hc
    · rename_i m ms' hr hrs
      simp only [Option.some.injEq] at hc
      subst hc
      simp only [mres] at h
      cases r with
      | tmp t =>
        simp only [convRes, Option.some.injEq] at hr
        subst hr
        simp only [mres1] at h
        obtain ⟨ps, vs, h1, h2, h3⟩ := results_sound henv hs rs ms' hrs h
        refine ⟨_, tmps.getD t undef :: vs, h1, by simp only [vreps]; exact ⟨henv t, h2⟩, ?_⟩
        simp only [List.mapM_cons, Sem.run_bind, resFn, Sem.run_pure, Result.andThen_ok, h3]
      | cell t T =>
        simp only [convRes, Option.map_eq_some_iff] at hr
        obtain ⟨⟨k, a⟩, hl, rfl⟩ := hr
        simp only [mres1] at h
        obtain ⟨p, hK, hld⟩ := load_sound hl h
        obtain ⟨u, hu1, hu2⟩ := hld I w (tmps.getD t undef) hs (by simpa only [meval] using henv t)
        obtain ⟨ps, vs, h1, h2, h3⟩ := results_sound henv hs rs ms' hrs hK
        refine ⟨_, u :: vs, h1, by simp only [vreps]; exact ⟨hu2, h2⟩, ?_⟩
        have hload : (do loadVar T (← asAddr (tmps.getD t undef)) : Sem Value).run P w = .ok u w := by
          have hp : ∃ a, tmps.getD t undef = .pointer (some a) := by
            cases hv : tmps.getD t undef <;> rw [hv] at hu1 <;> try (simp [Instr.loadAt, Instr.sureAddr] at hu1; done)
            rename_i ao
            cases ao with
            | none => simp [Instr.loadAt, Instr.sureAddr] at hu1
            | some a => exact ⟨a, rfl⟩
          obtain ⟨ad, had⟩ := hp
          rw [had] at hu1 ⊢
          simp only [Instr.loadAt, Instr.sureAddr, Sem.run_bind, Sem.run_pure, Result.andThen_ok] at hu1
          simp only [asAddr, Sem.run_bind, Sem.run_pure, Result.andThen_ok, hu1]
        have hload' : (resFn tmps (.cell t T)).run P w = .ok u w := hload
        simp only [List.mapM_cons, Sem.run_bind, hload', Result.andThen_ok, h3, Sem.run_pure]
    · cases hc

theorem initEnv_spec {I : Imm} : ∀ {ps : List PV} {vs : List Value} (k : Nat), vreps I ps vs → ∀ t, vrep I (eget (initEnv k ps) t) ((List.replicate k undef ++ vs).toArray.getD t undef)
  | [], vs, k, h, t => by simp [initEnv, eget, vrep]
  | p :: ps, [], _, h, _ => by simp [vreps] at h
  | p :: ps, v :: vs, k, h, t => by
    simp only [vreps] at h
    simp only [initEnv, eget]
    by_cases hk : k = t
    · subst hk
      simp only [if_true]
      simpa using h.1
    · rw [if_neg hk]
      have ih := initEnv_spec (k + 1) h.2 t
      rcases Nat.lt_trichotomy t k with hlt | rfl | hgt
      · have : ∀ (qs : List PV) (m : Nat), t < m → eget (initEnv m qs) t = .any := by
          intro qs
          induction qs with
          | nil => intro m _; rfl
          | cons q qs ihq => intro m hm; simp only [initEnv, eget]; rw [if_neg (by omega)]; exact ihq (m + 1) (by omega)
        rw [this ps (k + 1) (by omega)]
        simp only [vrep]
      · exact absurd rfl hk
      · have e : (List.replicate k undef ++ v :: vs).toArray.getD t undef = (List.replicate (k + 1) undef ++ vs).toArray.getD t undef := by
          simp only [Array.getD_eq_getD_getElem?, List.getElem?_toArray]
          rw [List.getElem?_append_right (by simp; omega), List.getElem?_append_right (by simp; omega)]
          simp only [List.length_replicate]
          rw [show t - k = (t - (k + 1)) + 1 by omega, List.getElem?_cons_succ]
        rw [e]
        exact ih

theorem pcalls_of_mwp (hmix : P.follows .mixedOrders = true) {g : FuncId} {fn : Func} {m : MFunc} (hf : P.funcs[g]? = some fn) (hname : (fn.name == "runtime.NumGoroutine") = false) (hm : convFunc P fn = some m)
    {ps : List PV} {st : Store} {Q : PEnd → Store → Prop} (hlen : ps.length = m.nparams) {R E : PV → Store → Prop} (hR : ∀ p st, R p st → RetView .ret p st Q) (hE : ∀ p st, E p st → RetView .panic p st Q) (h : mwp P m.body (retPost m.results R E) ⟨initEnv 0 ps, st⟩) : PCalls P g ps st Q := by
  unfold convFunc at hm
  split at hm
  · rename_i c hb
    split at hm
    · rename_i mc rs hmc hrs
      split at hm
      · rename_i hpar
        simp only [Option.some.injEq] at hm
        subst hm
        refine .inl ⟨⟨fn, hf, hname, by rw [hb]; rfl⟩, fun I w vs hs hv => ?_⟩
        have hvl := vreps_length hv
        refine callsIn_wide (n := 0).1 (callsIn_of_wp hf hb trivial ?_)
        have hW : Wide Fence.wide := ⟨fun _ => trivial, rfl, rfl⟩
        have hrel : Rel fn.ntmps [] I ⟨initEnv 0 ps, st⟩ { tmps := vs.toArray ++ Array.replicate (fn.ntmps - vs.toArray.size) undef, defers := [] } w := by
          refine ⟨fun t => ?_, by simp; simp at hlen; omega, rfl, hs⟩
          have h1 := initEnv_spec 0 hv t
          have e : (vs.toArray ++ Array.replicate (fn.ntmps - vs.toArray.size) undef).getD t undef = (List.replicate 0 undef ++ vs).toArray.getD t undef := by
            simp only [List.replicate_zero, List.nil_append, Array.getD_eq_getD_getElem?]
            rcases Nat.lt_or_ge t vs.length with hlt | hge
            · rw [Array.getElem?_append_left (by simpa using hlt)]
            · rw [Array.getElem?_append_right (by simpa using hge)]
              rw [Array.getElem?_replicate]
              simp only [List.getElem?_toArray, List.getElem?_eq_none hge]
              split <;> rfl
          rw [e]
          exact h1
        refine wpIn_mono (code_sound hmix hW c mc hmc _ I _ _ w hrel h) fun e a' w' hq => ?_
        have fin : ∀ {s : PS} {I' : Imm}, I.le I' → Calm w w' → Rel fn.ntmps [] I' s a' w' → retPost rs R E .normal s → a'.defers = [] ∧ ∃ v, (results fn a'.tmps).run P w' = .ok v w' ∧
            Held I w (fun I' st' => ∃ pe, erep I' pe (.returned v) ∧ Q pe st') w' := by
          intro s I' h1 h2 h3 h4
          simp only [retPost] at h4
          obtain ⟨qs, us, h5, h6, h7⟩ := results_sound h3.env h3.st _ _ hrs h4
          obtain ⟨p', st', hsee, hQ⟩ := hR _ _ h5
          have hrun : (results fn a'.tmps).run P w' = .ok (if hh : us.length = 1 then us[0] else .tuple us.toArray) w' := by
            rw [results_eq]
            have e : fn.results = fn.results.toList.toArray := by simp
            rw [e, List.mapM_toArray]
            simp only [Sem.run_bind, Sem.run_map, h7, Result.andThen_ok, Sem.run_pure]
            rfl
          have hvt : vrep I' (tuplePV qs) (if hh : us.length = 1 then us[0] else .tuple us.toArray) := by
            have hl := vreps_length h6
            unfold tuplePV
            split
            · match us, hl, h6 with
              | [u], _, h6 => simp only [vreps] at h6; simpa using h6.1
            · rename_i hne
              rw [dif_neg (by
                intro h1
                rw [h1] at hl
                cases qs with
                | nil => simp at hl
                | cons q qs =>
                  cases qs with
                  | nil => exact hne q rfl
                  | cons => simp at hl)]
              simp only [vrep]
              exact ⟨us, rfl, h6⟩
          obtain ⟨I'', g1, g2, g3⟩ := hsee.out I' w' _ h3.st hvt
          exact ⟨h3.defers, _, hrun, I'', st', Imm.le_trans h1 g1, h2, g2, .ret p', ⟨_, rfl, g3⟩, hQ⟩
        cases e with
        | normal =>
          obtain ⟨I', s', h1, h2, h3, h4⟩ := hq
          exact fin h1 h2 h3 h4
        | ret =>
          obtain ⟨I', s', h1, h2, h3, h4⟩ := hq
          exact fin h1 h2 h3 h4
        | panic ch =>
          obtain ⟨hd, v, rfl, I', st', h1, h2, h3, p, h4, h5⟩ := hq
          simp only [panicPost, retPost] at h5
          obtain ⟨p', st'', hsee, hQ⟩ := hE _ _ h5
          obtain ⟨I'', g1, g2, g3⟩ := hsee.out I' w' _ h3 h4
          exact ⟨hd, I'', st'', Imm.le_trans h1 g1, h2, g2, .panic p', ⟨_, rfl, g3⟩, hQ⟩
        | exit id => obtain ⟨_, _, _, _, _, h4⟩ := hq; exact h4.elim
        | goto l => exact hq.elim
        | outgrown => exact hq.elim
      · cases hm
    · cases hm
  · cases hm

end Go.Pv
