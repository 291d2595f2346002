/- The compact code is met by the model's own: control, functions. -/
import Derived.Test.YtliglilanpfjhaaLSq
import Derived.RecoverIn
set_option linter.unusedSimpArgs false
namespace Go.Pv
variable {P : Program}

section
variable {F : Fence} {n : Nat} {Q : Exit → Act → World → Prop} {a : Act} {w : World}

/-- A loop whose measure stands in no slot. -/
theorem wpIn_loop_ghost {c : Code} (J : Nat → Act → World → Prop) (h₀ : ∃ j, J j a w)
    (round : ∀ j a w, J j a w → c.wpIn F n P (Exit.then (fun a' w' => ∃ i, i < j ∧ J i a' w') Q) a w) : (Code.loop c).wpIn F n P Q a w := by
  intro b k cs hro hb hr
  have key : ∀ j a w, J j a w →
      ∃ e a' w', Q e a' w' ∧ ArrivesIn (Machine.fenced P F) P (lone (b.atR a (.code c :: .inLoop c :: k)) cs w) b k cs e a' w' := by
    intro j
    induction j using Nat.strongRecOn with
    | _ j ih =>
      intro a w hI
      obtain ⟨e, a₁, w₁, hq, harr⟩ := round j a w hI b (.inLoop c :: k) cs hro hb hr
      cases e with
      | normal =>
        obtain ⟨i, hlt, hI₁⟩ := hq
        obtain ⟨e₂, a₂, w₂, hq₂, harr₂⟩ := ih i hlt a₁ w₁ hI₁
        exact ⟨e₂, a₂, w₂, hq₂, .of_steps (StepsIn.trans harr (.one (fenced_calm hb hr rfl) stepR_inLoop)) harr₂⟩
      | exit id => exact ⟨_, a₁, w₁, hq, .pass (x := .inLoop c) rfl (fun _ _ => .inl (by simp)) harr⟩
      | goto l => exact ⟨_, a₁, w₁, hq, .pass (x := .inLoop c) rfl (fun _ _ => .inl (by simp)) harr⟩
      | ret => exact ⟨_, a₁, w₁, hq, .pass (x := .inLoop c) rfl (fun _ _ => .inl (by simp)) harr⟩
      | panic ch => exact ⟨_, a₁, w₁, hq, .pass (x := .inLoop c) rfl (fun _ _ => .inl (by simp)) harr⟩
      | outgrown => exact ⟨_, a₁, w₁, hq, .pass (x := .inLoop c) rfl (fun _ _ => .inl (by simp)) harr⟩
  obtain ⟨j, hj⟩ := h₀
  obtain ⟨e, a', w', hq, harr⟩ := key j a w hj
  exact ⟨e, a', w', hq, .of_steps (.one (fenced_calm hb hr rfl) stepR_loop) harr⟩

theorem stepR_scope {b : Frame} {k : List Item} {cs : List Frame} {c : Code} : step P (lone (b.atR a (.code (.scope c) :: k)) cs w) = .next (lone (b.atR a (.code c :: .inScope c :: k)) cs w) :=
  step_lone_go (by simp [stepG, stepG.exec, Frame.atR])
theorem stepR_inScope {b : Frame} {k : List Item} {cs : List Frame} {c : Code} : step P (lone (b.atR a (.inScope c :: k)) cs w) = .next (lone (b.atR a k) cs w) :=
  step_lone_go (by simp [stepG, stepG.exec, Frame.atR])
theorem wpIn_scope {c : Code} (h : c.wpIn F n P Q a w) (hg : ∀ l a w, ¬ Q (.goto l) a w) : (Code.scope c).wpIn F n P Q a w := by
  intro b k cs hro hb hr
  have h0 : (lone (b.atR a (.code (.scope c) :: k)) cs w).fenced P F := fenced_calm hb hr rfl
  obtain ⟨e, a₁, w₁, hq, harr⟩ := h b (.inScope c :: k) cs hro hb hr
  cases e with
  | normal => exact ⟨.normal, a₁, w₁, hq, .head h0 stepR_scope (StepsIn.trans harr (.one (fenced_calm hb hr rfl) stepR_inScope))⟩
  | exit id =>
    have hx : exitTo id (.inScope c :: k) = exitTo id k := by simp [exitTo]
    exact ⟨.exit id, a₁, w₁, hq, fun k' hk => .head h0 stepR_scope (harr.1 k' (by rw [hx]; exact hk)),
      fun hr' hk => let ⟨k₁, h1, h2⟩ := harr.2 hr' (by rw [hx]; exact hk); ⟨k₁, h1, .head h0 stepR_scope h2⟩⟩
  | goto l => exact (hg _ _ _ hq).elim
  | ret => exact ⟨_, a₁, w₁, hq, .of_steps (.one h0 stepR_scope) harr⟩
  | panic ch => exact ⟨_, a₁, w₁, hq, .of_steps (.one h0 stepR_scope) harr⟩
  | outgrown => exact ⟨_, a₁, w₁, hq, .of_steps (.one h0 stepR_scope) harr⟩
end

theorem Rel.kill {N : Lim} {D : Fix} {I : Imm} {e : Env} {st : Store} {a : Act} {w : World} (h : Rel N D I ⟨e, st⟩ a w) (ks : List Nat) : Rel N D I ⟨ekill ks e, st⟩ a w :=
  h.weaken fun t => eget_ekill ks t e

theorem Rel.view {N : Lim} {D : Fix} {I : Imm} {s s' : PS} {a : Act} {w : World} (h : Rel N D I s a w) (hv : View s s') : ∃ I', I.le I' ∧ Rel N D I' s' a w := by
  obtain ⟨I', h1, h2, h3⟩ := hv I a.tmps w h.env h.st
  exact ⟨I', h1, h2, h.size, h.fix.mono h1, h3⟩

theorem code_sound (hmix : P.follows .mixedOrders = true) {F : Fence} {n : Nat} (hF : Wide F) {N : Lim} {D : Fix} {keep : List Nat} : ∀ (c : Code) (m : MCode), convCode P N keep c = some m → ((F.round = none ∧ D.noMarks = false) ∨ noRF c = true) →
    ∀ (Q : MPost) (I : Imm) (s : PS) (a : Act) (w : World), Rel N D I s a w → mwp P m Q s → c.wpIn F n P (lift N D I w Q) a w
  | .skip, m, hc, hro, Q, I, s, a, w, hr, h => by
    simp only [convCode, Option.some.injEq] at hc
    subst hc
    exact wpIn_skip ⟨I, s, I.le_refl, Calm.refl w, hr, h⟩
  | .label l, m, hc, hro, Q, I, s, a, w, hr, h => by
    simp only [convCode, Option.some.injEq] at hc
    subst hc
    exact wpIn_label ⟨I, s, I.le_refl, Calm.refl w, hr, h⟩
  | .ret, m, hc, hro, Q, I, s, a, w, hr, h => by
    simp only [convCode, Option.some.injEq] at hc
    subst hc
    exact wpIn_ret ⟨I, s, I.le_refl, Calm.refl w, hr, h⟩
  | .exit id, m, hc, hro, Q, I, s, a, w, hr, h => by
    simp only [convCode, Option.some.injEq] at hc
    subst hc
    exact wpIn_exit ⟨I, s, I.le_refl, Calm.refl w, hr, h⟩
  | .goto l, m, hc, _, _, _, _, _, _, _, _ => by simp [convCode] at hc
  | .refuse l, m, hc, _, _, _, _, _, _, _, _ => by simp [convCode] at hc
  | .rangeFunc g ps x y, m, hc, hro, Q, I, s, a, w, hr, h => by
    simp only [convCode] at hc
    obtain ⟨hro, hnm⟩ : F.round = none ∧ D.noMarks = false := hro.resolve_right (by simp [noRF])
    split at hc
    · rename_i mf ma mb hcf hcx hcy
      split at hc
      · rename_i hnf
        simp only [Bool.and_eq_true, List.all_eq_true, decide_eq_true_eq] at hnf
        obtain ⟨hnf, hpn⟩ := hnf
        simp only [Option.some.injEq] at hc
        subst hc
        simp only [mwp] at h
        split at h
        · rename_i fid fs cs hfe
          obtain ⟨hent, h⟩ := h
          have hv := hr.x hcf
          rw [hfe] at hv
          simp only [vrep] at hv
          obtain ⟨us, vs, hfv, hus, hvs⟩ := hv
          have hfr := hr.st.fresh_none
          -- the record
          let key : LoopKey := ⟨a.tmps.size, ps, x, y⟩
          have hkey : key.Conv P ps.toList ma mb := ⟨rfl, fun t ht => by show t < a.tmps.size; rw [hr.size]; exact hpn t ht, hnf.1, hnf.2, N, keep, hr.size.symm, hcx, hcy⟩
          let I1 : Imm := I.add w.heap.size (.deferred (some []))
          have hI1 : I.le I1 := hr.st.le_add _
          have hs1 : SRep I1 s.st (w.alloc (.deferred (some []))) := hr.st.allocImm _
          refine wpIn_rangeFunc fun fn hfn => ?_
          let rec0 : Loop := { state := .ready, pending := none, fn, tmps := a.tmps, params := ps, assign := x, body := y, defers := w.heap.size }
          have hor : orep I1 (.loop key s.env .ready none) (.loop rec0) := ⟨fn, a.tmps, w.heap.size, rfl, rfl, fun t => vrep_mono hI1 _ _ (hr.env t)⟩
          have hs2 := hs1.alloc hor
          have hl : (w.alloc (.deferred (some []))).heap.size = w.heap.size + 1 := by rw [World.size_alloc]
          rw [hl] at hs2
          have hnew : snew s.st (w.heap.size + 1) := snew_of (by have := hs1.keys; rw [hl] at this; exact this)
          have hcall := h key hkey (w.heap.size + 1) hnew
          have hcalls : Calls P fid (us ++ [Value.func (.yield (w.heap.size + 1)) #[] #[]] ++ vs).toArray ((w.alloc (.deferred (some []))).alloc (.loop rec0))
              fun e => Held I1 ((w.alloc (.deferred (some []))).alloc (.loop rec0)) (fun I' st' => ∃ pe, erep I' pe e ∧ rangeEnd (w.heap.size + 1) Q s.env pe st') := by
            have hvs' : vreps I1 (fs ++ [.func (.yield (w.heap.size + 1)) [] []] ++ cs) (us ++ [Value.func (.yield (w.heap.size + 1)) #[] #[]] ++ vs) :=
              vreps_append (vreps_append (vreps_mono hI1 _ _ hus) (by simp only [vreps, vrep]; exact ⟨⟨[], [], rfl, trivial, trivial⟩, trivial⟩)) (vreps_mono hI1 _ _ hvs)
            rcases hcall with hcall | hcall
            · exact hcall.out _ _ _ hs2 hvs'
            · obtain ⟨v, w', h3, -⟩ := hcall.out _ _ _ hs2 hvs'
              rw [callFunc_run hent] at h3
              cases h3
          refine ⟨w.heap.size + 1, [{ target := .collected w.heap.size, args := #[] }], ((w.alloc (.deferred (some []))).alloc (.loop rec0)), { target := .fn (.func fid) vs.toArray, args := us.toArray ++ #[.func (.yield (w.heap.size + 1)) #[] #[]] }, ((w.alloc (.deferred (some []))).alloc (.loop rec0)), fid, us.toArray ++ #[.func (.yield (w.heap.size + 1)) #[] #[]] ++ vs.toArray, ((w.alloc (.deferred (some []))).alloc (.loop rec0)),
            by rw [hro]; exact run_enterLoop_outer fn a.tmps ps x y, ?_, fun f' _ => hF.fn f', ?_, fun hx => (by rw [hF.depth] at hx; simp at hx), ?_⟩
          · have e : resolve a.eval (rangeCall g (w.heap.size + 1)) 0 = Deferred.ofValue (a.eval g) #[.func (.yield (w.heap.size + 1)) #[] #[]] := by simp [resolve, rangeCall, Act.eval]
            rw [e, hfv]
            rfl
          · simp only [invoke, callFunc_run hent]
          · have e2 : us.toArray ++ #[Value.func (.yield (w.heap.size + 1)) #[] #[]] ++ vs.toArray = (us ++ [Value.func (.yield (w.heap.size + 1)) #[] #[]] ++ vs).toArray := by simp
            rw [e2]
            refine (hF.calls hcalls).mono fun e w3 hh => ?_
            obtain ⟨I', st', g1, g2, g3, pe, g4, g5⟩ := hh
            have hII : I.le I' := Imm.le_trans hI1 g1
            have hcalm : Calm w w3 := ⟨g2.os, g2.tape, g2.output, by have := g2.size; simp only [World.size_alloc] at this; omega⟩
            have hfix : D.Holds N I' { a with defers := [{ target := .collected w.heap.size, args := #[] }] ++ a.defers } := by
              refine ⟨Imm.le_trans hr.fix.imm hII, hr.fix.defers, fun r hrm => ?_, ?_, fun h => (by rw [hnm] at h; cases h), hr.fix.pins⟩
              · rcases List.mem_cons.1 hrm with rfl | hrm
                · refine ⟨?_, g1 _ _ (by simp [I1, Imm.add])⟩
                  cases hd : D.imm w.heap.size with
                  | none => rfl
                  | some o => have := hr.fix.imm _ _ hd; rw [hfr] at this; cases this
                · exact ⟨(hr.fix.marks r hrm).1, hII _ _ (hr.fix.marks r hrm).2⟩
              · refine List.nodup_cons.2 ⟨fun hm => ?_, hr.fix.nodup⟩
                have := (hr.fix.marks _ hm).2
                rw [hfr] at this
                cases this
            cases pe with
            | panic p =>
              obtain ⟨v, rfl, g6⟩ := g4
              exact ⟨v, rfl, I', st', hII, hcalm, g3, hfix, p, g6, g5⟩
            | ret p =>
              obtain ⟨v, rfl, g6⟩ := g4
              simp only [rangeEnd] at g5
              split at g5
              · rename_i key' e' state pend hget
                obtain ⟨hst, g5⟩ := g5
                obtain ⟨hIl, r, hw3, fn', tmps', D', hr', -, -⟩ := g3.objs _ _ hget
                subst hr'
                have hend := run_endLoop (P := P) hw3 hst
                have hs4 : SRep I' (sdel (w.heap.size + 1) st') (w3.putObj (w.heap.size + 1) (.loop { state := .exhausted, pending := pend, fn := fn', tmps := tmps', params := key'.params, assign := key'.assign, body := key'.body, defers := D' })) := by
                  refine ⟨fun b o hb => ?_, fun b o hb => ?_, ?_⟩
                  · rw [World.putObj_heap_other (by rintro rfl; rw [hIl] at hb; cases hb)]
                    exact g3.imm b o hb
                  · rw [sget_sdel] at hb
                    split at hb
                    · cases hb
                    · rename_i hne
                      rw [World.putObj_heap_other hne]
                      exact g3.objs b o hb
                  · rw [World.putObj_size]; exact sfresh_sdel _ g3.keys
                have hcalm4 : Calm w (w3.putObj (w.heap.size + 1) (.loop { state := .exhausted, pending := pend, fn := fn', tmps := tmps', params := key'.params, assign := key'.assign, body := key'.body, defers := D' })) :=
                  hcalm.trans ⟨rfl, rfl, rfl, by rw [World.putObj_size]; exact Nat.le_refl _⟩
                have hrel : Rel N D I' ⟨s.env, sdel (w.heap.size + 1) st'⟩ { a with defers := [{ target := .collected w.heap.size, args := #[] }] ++ a.defers } _ := ⟨fun t => vrep_mono hII _ _ (hr.env t), hr.size, hfix, hs4⟩
                refine ⟨pend, _, hend, ?_⟩
                split at g5
                · exact ⟨I', _, hII, hcalm4, hrel, g5⟩
                · exact wpIn_ret ⟨I', _, hII, hcalm4, hrel, g5⟩
                · exact wpIn_exit ⟨I', _, hII, hcalm4, hrel, g5⟩
                · exact g5.elim
              · exact g5.elim
        · exact h.elim
      · cases hc
    · cases hc
  | .region id ops false, m, hc, hro, Q, I, s, a, w, hr, h => by
    simp only [convCode, Option.map_eq_some_iff] at hc
    obtain ⟨l, hl, rfl⟩ := hc
    simp only [mwp] at h
    refine wpIn_region ?_
    have := region_sound (n := n) hF (D := D) (Q := lift N D I w Q) (I0 := I) (w0 := w) (K := fun s' => Q .normal ⟨ekill (killOf keep ops) s'.env, s'.st⟩) (QP := panicPost Q)
      (fun a' w' ⟨I', s', h1, h2, h3, h4⟩ => ⟨I', _, h1, h2, h3.kill _, h4⟩) (fun ch a' w' hh => hh)
      ops.toList 0 l (by simp) hl I s a w I.le_refl (Calm.refl w) hr h
    simpa [List.range_eq_range'] using this
  | .region id ops true, m, hc, hro, Q, I, s, a, w, hr, h => by
    simp only [convCode] at hc
    split at hc
    · rename_i l hl
      split at hc
      · rename_i L hL
        split at hc
        · rename_i r hr0
          split at hc
          · rename_i hb
            simp only [Bool.and_eq_true, beq_iff_eq] at hb
            obtain ⟨⟨hok, hsel⟩, hlen⟩ := hb
            simp only [Option.some.injEq] at hc
            subst hc
            obtain ⟨e, st⟩ := s
            -- the class of stores
            obtain ⟨Cl, hCl0, h⟩ : ∃ Cl : Store → Prop, Cl st ∧ mdraw P Cl r ⟨e, st⟩ (fun s' => Q .normal ⟨ekill (killOf keep ops) s'.env, s'.st⟩) (panicPost Q) := by
              cases hlate : (r.any fun x => x.1 == .late) with
              | true =>
                rw [hlate] at h
                simp only [mwp] at h
                exact h
              | false =>
                rw [hlate] at h
                simp only [mwp] at h
                exact ⟨_, trivial, h⟩
            have hhd : ∀ x ∈ L, ((L.filter (·.1)).map (·.2)).contains x.2 = x.1 := by
              have key : ∀ (L' : List (Bool × Nat)) (listed : Array Bool), orderOK ops ((L.filter (·.1)).map (·.2)) L' listed = true → (∀ x ∈ L', x ∈ L) → ∀ x ∈ L', ((L.filter (·.1)).map (·.2)).contains x.2 = x.1 := by
                intro L'
                induction L' with
                | nil => intro _ _ _ x hx; cases hx
                | cons y L' ih =>
                  obtain ⟨yh, yi⟩ := y
                  intro listed hB hsub x hx
                  simp only [orderOK, Bool.and_eq_true] at hB
                  rcases List.mem_cons.1 hx with rfl | hx
                  · cases yh with
                    | true =>
                      have := hsub (true, yi) (by simp)
                      simp only [List.contains_iff_mem, List.mem_map, List.mem_filter]
                      exact ⟨_, ⟨this, rfl⟩, rfl⟩
                    | false =>
                      have h1 := hB.1
                      simp only [Bool.false_eq_true, if_false, Bool.and_eq_true, Bool.not_eq_true'] at h1
                      exact h1.1.1
                  · exact ih _ hB.2 (fun z hz => hsub z (by simp [hz])) x hx
              exact key L _ hok (fun x hx => hx)
            have hlex := draw_lex hl L r ⟨e, st⟩ hr0 hhd h
            have hclosed : Closed ops (Array.replicate ops.size false) := by
              intro j oj hj hlj
              exfalso
              rcases Nat.lt_or_ge j ops.size with hlt | hge
              · simp [hlt] at hlj
              · simp [Array.getElem?_eq_none, hge] at hlj
            have hany := pAny_order L (Array.replicate ops.size false) (eget e) st hok (fun x hx hx1 => by rw [hhd x hx, hx1]) hclosed hlex
            rw [hlen] at hany
            refine wpIn_region_any hmix ?_
            have hr' : RelF N D I (eget e) st a { w with drawn := w.drawn + 1 } := ⟨hr.env, hr.size, hr.fix, hr.st.drew⟩
            exact wpAnyIn_of_pAny (n := n) hF (N := N) (D := D) (ops := ops) (QP := panicPost Q) (K := fun f st => ∃ e', (∀ t, eget e' t = f t) ∧ Q .normal ⟨ekill (killOf keep ops) e', st⟩) (Q := lift N D I w Q) (I0 := I) (w0 := w)
              (fun i o ho => convInsts_all hl o (by rw [Array.mem_toList_iff]; exact Array.mem_of_getElem? ho))
              (fun a' w' ⟨I', f, st', h1, h2, h3, e', h4, h5⟩ => ⟨I', _, h1, h2, (h3.rel h4).kill _, h5⟩)
              (fun ch a' w' hh => hh) fin_spec _ _ _ _ I a { w with drawn := w.drawn + 1 } hclosed (.inl hCl0) I.le_refl ⟨rfl, rfl, rfl, Nat.le_refl _⟩ hr' hany
          · cases hc
        · cases hc
      · cases hc
    · cases hc
  | .seq x y, m, hc, hro, Q, I, s, a, w, hr, h => by
    simp only [convCode] at hc
    have hx0 : (F.round = none ∧ D.noMarks = false) ∨ noRF x = true := hro.imp (fun h => h) fun h => by simp only [noRF, Bool.and_eq_true] at h; exact h.1
    have hy0 : (F.round = none ∧ D.noMarks = false) ∨ noRF y = true := hro.imp (fun h => h) fun h => by simp only [noRF, Bool.and_eq_true] at h; exact h.2
    split at hc
    · rename_i mx my hx hy
      simp only [Option.some.injEq] at hc
      subst hc
      simp only [mwp] at h
      refine wpIn_seq (wpIn_mono (code_sound hmix hF x mx hx hx0 _ I s a w hr h) fun e a' w' hq => ?_)
      cases e with
      | normal =>
        obtain ⟨I', s', h1, h2, h3, h4⟩ := hq
        exact wpIn_mono (code_sound hmix hF y my hy hy0 Q I' s' a' w' h3 h4) fun e a'' w'' hq => lift_from h1 h2 _ _ _ hq
      | exit id => exact hq
      | ret => exact hq
      | panic ch => exact hq
      | goto l => exact hq
      | outgrown => exact hq
    · cases hc
  | .cond c x y, m, hc, hro, Q, I, s, a, w, hr, h => by
    simp only [convCode] at hc
    have hx0 : (F.round = none ∧ D.noMarks = false) ∨ noRF x = true := hro.imp (fun h => h) fun h => by simp only [noRF, Bool.and_eq_true] at h; exact h.1
    have hy0 : (F.round = none ∧ D.noMarks = false) ∨ noRF y = true := hro.imp (fun h => h) fun h => by simp only [noRF, Bool.and_eq_true] at h; exact h.2
    split at hc
    · rename_i mc mx my hcx hx hy
      simp only [Option.some.injEq] at hc
      subst hc
      simp only [mwp] at h
      split at h
      · rename_i t ht
        have hv := hr.x hcx
        rw [ht] at hv
        simp only [vrep] at hv
        exact wpIn_cond_split hv (fun e => code_sound hmix hF x mx hx hx0 Q I s a w hr (h.1 e)) (fun e => code_sound hmix hF y my hy hy0 Q I s a w hr (h.2 e))
      · exact h.elim
    · cases hc
  | .block id c, m, hc, hro, Q, I, s, a, w, hr, h => by
    have hro : (F.round = none ∧ D.noMarks = false) ∨ noRF c = true := hro.imp (fun h => h) fun h => h
    simp only [convCode, Option.map_eq_some_iff] at hc
    obtain ⟨mc, hmc, rfl⟩ := hc
    simp only [mwp] at h
    refine wpIn_block (wpIn_mono (code_sound hmix hF c mc hmc hro _ I s a w hr h) fun e a' w' hq => ?_)
    cases e with
    | normal => exact hq
    | exit j =>
      simp only [Exit.inBlock]
      obtain ⟨I', s', h1, h2, h3, h4⟩ := hq
      simp only [minBlock] at h4
      by_cases hj : j = id
      · simp only [hj, if_true] at h4 ⊢
        exact ⟨I', s', h1, h2, h3, h4⟩
      · simp only [hj, if_false] at h4 ⊢
        exact ⟨I', s', h1, h2, h3, h4⟩
    | ret => exact hq
    | panic ch => exact hq
    | goto l => exact hq
    | outgrown => exact hq
  | .loop c, m, hc, hro, Q, I, s, a, w, hr, h => by
    have hro : (F.round = none ∧ D.noMarks = false) ∨ noRF c = true := hro.imp (fun h => h) fun h => h
    simp only [convCode, Option.map_eq_some_iff] at hc
    obtain ⟨mc, hmc, rfl⟩ := hc
    simp only [mwp] at h
    obtain ⟨J, ⟨j0, s0, hv0, hj0⟩, hround⟩ := h
    obtain ⟨I1, hI1, hr1⟩ := hr.view hv0
    refine wpIn_loop_ghost (fun j a' w' => HRel N D I w (J j) a' w') ⟨j0, I1, s0, hI1, Calm.refl w, hr1, hj0⟩ fun j a' w' ⟨I', s', h1, h2, h3, h4⟩ => ?_
    refine wpIn_mono (code_sound hmix hF c mc hmc hro _ I' s' a' w' h3 (hround j s' h4)) fun e a'' w'' hq => ?_
    cases e with
    | normal =>
      obtain ⟨I'', s1, g1, g2, g3, i, g4, s'', g5, g6⟩ := hq
      obtain ⟨I3, hI3, hr3⟩ := g3.view g5
      exact ⟨i, g4, I3, s'', Imm.le_trans (Imm.le_trans h1 g1) hI3, h2.trans g2, hr3, g6⟩
    | exit id => exact HRel.from h1 h2 hq
    | ret => exact HRel.from h1 h2 hq
    | panic ch => exact HPanA.from h1 h2 hq
    | goto l => exact hq
    | outgrown => exact hq
  | .scope c, m, hc, hro, Q, I, s, a, w, hr, h => by
    have hro : (F.round = none ∧ D.noMarks = false) ∨ noRF c = true := hro.imp (fun h => h) fun h => h
    simp only [convCode] at hc
    exact wpIn_scope (code_sound hmix hF c m hc hro Q I s a w hr h) (fun l a' w' hq => hq)

end Go.Pv
/- The compact code is met by the model's own: functions. -/
set_option linter.unusedSimpArgs false
namespace Go.Pv
variable {P : Program}

/-! ### Functions -/
def convRes (P : Program) : ResultVar → Option MRes
  | .tmp t => some (.tmp t)
  | .cell t T => (lay P T).map fun l => .cell t l.1 l.2
def convRess (P : Program) : List ResultVar → Option (List MRes)
  | [] => some []
  | r :: rs =>
    match convRes P r, convRess P rs with
    | some m, some ms => some (m :: ms)
    | _, _ => none
def resTmps : List ResultVar → List Nat
  | [] => []
  | .tmp t :: rs => t :: resTmps rs
  | .cell t _ :: rs => t :: resTmps rs
def convFunc (P : Program) (fn : Func) : Option MFunc :=
  match fn.body with
  | some c =>
    match convCode P ⟨fn.ntmps, []⟩ (keepCode c ++ resTmps fn.results.toList) c, convRess P fn.results.toList with
    | some m, some rs => if fn.params.size + fn.nfree ≤ fn.ntmps then some ⟨fn.ntmps, fn.params.size + fn.nfree, rs, m⟩ else none
    | _, _ => none
  | none => none

def resFn (tmps : Array Value) : ResultVar → Sem Value
  | .tmp t => pure (tmps.getD t undef)
  | .cell a t => do loadVar t (← asAddr (tmps.getD a undef))
theorem results_eq (fn : Func) (tmps : Array Value) : results fn tmps = (do
  let vs ← fn.results.mapM (resFn tmps)
  pure (if h : vs.size = 1 then vs[0] else .tuple vs)) := rfl

theorem results_sound {I : Imm} {s : PS} {w : World} {tmps : Array Value} (henv : ∀ t, vrep I (eget s.env t) (tmps.getD t undef)) (hs : SRep I s.st w) : ∀ (rs : List ResultVar) (ms : List MRes) {K : List PV → Prop},
    convRess P rs = some ms → mres s ms K → ∃ ps vs, K ps ∧ vreps I ps vs ∧
      (rs.mapM (resFn tmps)).run P w = .ok vs w
  | [], ms, K, hc, h => by
    simp only [convRess, Option.some.injEq] at hc
    subst hc
    exact ⟨[], [], h, by simp [vreps], rfl⟩
  | r :: rs, ms, K, hc, h => by
    simp only [convRess] at hc
    split at hc
    · rename_i m ms' hr hrs
      simp only [Option.some.injEq] at hc
      subst hc
      simp only [mres] at h
      cases r with
      | tmp t =>
        simp only [convRes, Option.some.injEq] at hr
        subst hr
        simp only [mres1] at h
        obtain ⟨ps, vs, h1, h2, h3⟩ := results_sound henv hs rs ms' hrs h
        refine ⟨_, tmps.getD t undef :: vs, h1, by simp only [vreps]; exact ⟨henv t, h2⟩, ?_⟩
        simp only [List.mapM_cons, Sem.run_bind, resFn, Sem.run_pure, Result.andThen_ok, h3]
      | cell t T =>
        simp only [convRes, Option.map_eq_some_iff] at hr
        obtain ⟨⟨k, a⟩, hl, rfl⟩ := hr
        simp only [mres1] at h
        obtain ⟨p, hK, hld⟩ := load_sound hl h
        obtain ⟨u, hu1, hu2⟩ := hld I w (tmps.getD t undef) hs (by simpa only [meval] using henv t)
        obtain ⟨ps, vs, h1, h2, h3⟩ := results_sound henv hs rs ms' hrs hK
        refine ⟨_, u :: vs, h1, by simp only [vreps]; exact ⟨hu2, h2⟩, ?_⟩
        have hload : (do loadVar T (← asAddr (tmps.getD t undef)) : Sem Value).run P w = .ok u w := by
          have hp : ∃ a, tmps.getD t undef = .pointer (some a) := by
            cases hv : tmps.getD t undef <;> rw [hv] at hu1 <;> try (simp [Instr.loadAt, Instr.sureAddr] at hu1; done)
            rename_i ao
            cases ao with
            | none => simp [Instr.loadAt, Instr.sureAddr] at hu1
            | some a => exact ⟨a, rfl⟩
          obtain ⟨ad, had⟩ := hp
          rw [had] at hu1 ⊢
          simp only [Instr.loadAt, Instr.sureAddr, Sem.run_bind, Sem.run_pure, Result.andThen_ok] at hu1
          simp only [asAddr, Sem.run_bind, Sem.run_pure, Result.andThen_ok, hu1]
        have hload' : (resFn tmps (.cell t T)).run P w = .ok u w := hload
        simp only [List.mapM_cons, Sem.run_bind, hload', Result.andThen_ok, h3, Sem.run_pure]
    · cases hc

theorem initEnv_spec {I : Imm} : ∀ {ps : List PV} {vs : List Value} (k : Nat), vreps I ps vs → ∀ t, vrep I (eget (initEnv k ps) t) ((List.replicate k undef ++ vs).toArray.getD t undef)
  | [], vs, k, h, t => by simp [initEnv, eget, vrep]
  | p :: ps, [], _, h, _ => by simp [vreps] at h
  | p :: ps, v :: vs, k, h, t => by
    simp only [vreps] at h
    simp only [initEnv, eget]
    by_cases hk : k = t
    · subst hk
      simp only [if_true]
      simpa using h.1
    · rw [if_neg hk]
      have ih := initEnv_spec (k + 1) h.2 t
      rcases Nat.lt_trichotomy t k with hlt | rfl | hgt
      · have : ∀ (qs : List PV) (m : Nat), t < m → eget (initEnv m qs) t = .any := by
          intro qs
          induction qs with
          | nil => intro m _; rfl
          | cons q qs ihq => intro m hm; simp only [initEnv, eget]; rw [if_neg (by omega)]; exact ihq (m + 1) (by omega)
        rw [this ps (k + 1) (by omega)]
        simp only [vrep]
      · exact absurd rfl hk
      · have e : (List.replicate k undef ++ v :: vs).toArray.getD t undef = (List.replicate (k + 1) undef ++ vs).toArray.getD t undef := by
          simp only [Array.getD_eq_getD_getElem?, List.getElem?_toArray]
          rw [List.getElem?_append_right (by simp; omega), List.getElem?_append_right (by simp; omega)]
          simp only [List.length_replicate]
          rw [show t - k = (t - (k + 1)) + 1 by omega, List.getElem?_cons_succ]
        rw [e]
        exact ih

/-! ### Leaving: marks and deferred calls -/
/-- How a frame is on its way out. -/
inductive PMode where
  | returning
  | panicking (p : PV)
def mrep (I : Imm) : PMode → FrameMode → Prop
  | .returning, u => u = .returning
  | .panicking p, u => ∃ v, u = .panicking [{ v, recovered := false }] ∧ vrep I p v
theorem mrep_mono {I I' : Imm} (h : I.le I') {m : PMode} {u : FrameMode} (hm : mrep I m u) : mrep I' m u := by
  cases m with
  | returning => exact hm
  | panicking p => obtain ⟨v, h1, h2⟩ := hm; exact ⟨v, h1, vrep_mono h _ _ h2⟩
/-- A deferred call: it returns; the mode behind it. -/
structure PDef (P : Program) (g : FuncId) (ps : List PV) (u : PMode) (st : Store) (Q : PMode → Store → Prop) : Prop where
  enters : Enters P g
  out : ∀ I w vs fu, mrep I u fu → SRep I st w → vreps I ps vs → CallsDIn Fence.wide 0 P g vs.toArray fu w fun e fu' w' => (∃ v, e = .returned v) ∧ Held I w (fun I' st' => ∃ u', mrep I' u' (settle fu') ∧ Q u' st') w'
def pleave (P : Program) : List (FuncId × List PV) → PMode → Store → (PMode → Store → Prop) → Prop
  | [], u, st, K => K u st
  | (g, ps) :: ds, u, st, K => PDef P g ps u st fun u' st' => pleave P ds u' st' K
def dsrep (I : Imm) : List (FuncId × List PV) → List Deferred → Prop
  | [], [] => True
  | (g, ps) :: ds, d :: L => (∃ (cap : Array Value) (us : List Value), d.target = .fn (.func g) cap ∧ d.args ++ cap = us.toArray ∧ vreps I ps us) ∧ dsrep I ds L
  | _, _ => False
theorem dsrep_dmono {I I' : Imm} (h : I.dle I') : ∀ {ds : List (FuncId × List PV)} {L : List Deferred}, dsrep I ds L → dsrep I' ds L
  | [], [], _ => trivial
  | [], _ :: _, h => h.elim
  | (_, _) :: _, [], h => h.elim
  | (g, ps) :: ds, d :: L, hr => by
    obtain ⟨⟨cap, us, h1, h2, h3⟩, h4⟩ := hr
    exact ⟨⟨cap, us, h1, h2, vreps_dmono h _ _ h3⟩, dsrep_dmono h h4⟩
/-- What is asked in the end: of the results; of a panic that goes on. -/
def pfin (rs : List MRes) (e : Env) (R E : PV → Store → Prop) : PMode → Store → Prop
  | .returning, st => mres ⟨e, st⟩ rs fun ps => R (tuplePV ps) st
  | .panicking p, st => E p st
theorem Wide.callsD {F : Fence} (h : Wide F) {n m : Nat} {g : FuncId} {args : Array Value} {u : FrameMode} {w : World} {R : Ending → FrameMode → World → Prop} (hc : CallsDIn Fence.wide n P g args u w R) : CallsDIn F m P g args u w R :=
  ⟨h.fn g, fun c cs hu _ => by
    obtain ⟨en, u', w2, fr, hR, hc, h6, h7, h8⟩ := hc.2 c cs hu (room_wide _)
    refine ⟨en, u', w2, fr, hR, ?_, h6, h7, h8⟩
    cases en with
    | returned v => exact StepsIn.mono (fun mm _ => h.fenced mm) hc
    | panicked ch => exact StepsIn.mono (fun mm _ => h.fenced mm) hc
    | outgrown => exact hc⟩
theorem leaves_sound {F : Fence} (hF : Wide F) {n : Nat} {fn : Func} {rs : List MRes} {tmps : Array Value} {e : Env} (hrs : convRess P fn.results.toList = some rs) {Q : PEnd → Store → Prop} {R E : PV → Store → Prop}
    (hR : ∀ p st, R p st → RetView .ret p st Q) (hE : ∀ p st, E p st → RetView .panic p st Q) {I0 : Imm} {w0 : World} :
    ∀ (L : List Deferred) (ds : List (FuncId × List PV)) (u : PMode) (fu : FrameMode) (I : Imm) (st : Store) (w : World), dsrep I ds (L.filter notMark) → (∀ r ∈ L.filterMap markOf, I0 r = none ∧ I r = some (.deferred (some []))) →
      (L.filterMap markOf).Nodup → I0.le I → Calm w0 w → SRep I st w → mrep I u fu → (∀ t, vrep I (eget e t) (tmps.getD t undef)) → pleave P ds u st (pfin rs e R E) →
      LeavesInM F n P fn tmps (fun en w' => Held I0 w0 (fun I' st' => ∃ pe, erep I' pe en ∧ Q pe st') w') L fu w
  | [], ds, u, fu, I, st, w, hds, hmk, hnd, hI, hw, hs, hu, henv, h => by
    cases ds with
    | cons d ds => obtain ⟨g, ps⟩ := d; exact (show False from hds).elim
    | nil =>
      simp only [pleave] at h
      cases u with
      | returning =>
        have hu : fu = .returning := hu
        subst hu
        simp only [pfin] at h
        obtain ⟨qs, us, h5, h6, h7⟩ := results_sound henv hs _ _ hrs h
        obtain ⟨p', st', hsee, hQ⟩ := hR _ _ h5
        have hrun : (results fn tmps).run P w = .ok (if hh : us.length = 1 then us[0] else .tuple us.toArray) w := by
          rw [results_eq]
          have e : fn.results = fn.results.toList.toArray := by simp
          rw [e, List.mapM_toArray]
          simp only [Sem.run_bind, Sem.run_map, h7, Result.andThen_ok, Sem.run_pure]
          rfl
        have hvt : vrep I (tuplePV qs) (if hh : us.length = 1 then us[0] else .tuple us.toArray) := by
          have hl := vreps_length h6
          unfold tuplePV
          split
          · match us, hl, h6 with
            | [u], _, h6 => simp only [vreps] at h6; simpa using h6.1
          · rename_i hne
            rw [dif_neg (by
              intro h1
              rw [h1] at hl
              cases qs with
              | nil => simp at hl
              | cons q qs =>
                cases qs with
                | nil => exact hne q rfl
                | cons => simp at hl)]
            simp only [vrep]
            exact ⟨us, rfl, h6⟩
        obtain ⟨I'', g1, g2, g3⟩ := hsee.out I w _ hs hvt
        exact ⟨_, hrun, I'', st', Imm.le_trans hI g1, hw, g2, .ret p', ⟨_, rfl, g3⟩, hQ⟩
      | panicking p =>
        obtain ⟨v, rfl, hv⟩ := hu
        simp only [pfin] at h
        obtain ⟨p', st'', hsee, hQ⟩ := hE _ _ h
        obtain ⟨I'', g1, g2, g3⟩ := hsee.out I w _ hs hv
        exact ⟨I'', st'', Imm.le_trans hI g1, hw, g2, .panic p', ⟨_, rfl, g3⟩, hQ⟩
  | d :: L, ds, u, fu, I, st, w, hds, hmk, hnd, hI, hw, hs, hu, henv, h => by
    have hrun : fu ≠ .run := by
      cases u with
      | returning => rw [show fu = .returning from hu]; simp
      | panicking p => obtain ⟨v, rfl, _⟩ := hu; simp
    refine ⟨hrun, ?_⟩
    by_cases hm : ∃ r, d.target = .collected r
    · obtain ⟨r, hr⟩ := hm
      have e1 : notMark d = false := by unfold notMark; rw [hr]
      have e2 : markOf d = some r := by unfold markOf; rw [hr]
      have e3 : (d :: L).filterMap markOf = r :: L.filterMap markOf := List.filterMap_cons_some e2
      rw [e3] at hmk hnd
      obtain ⟨hn1, hn2⟩ := List.nodup_cons.1 hnd
      obtain ⟨h0r, hIr⟩ := hmk r (by simp)
      have hwr := hs.imm _ _ hIr
      let I' : Imm := fun b => if b = r then none else I b
      have hdle : I.dle I' := fun b o hb hno => by
        show (if b = r then none else I b) = some o
        by_cases hbr : b = r
        · subst hbr; rw [hIr] at hb; cases hb; exact absurd rfl (hno _)
        · rw [if_neg hbr]; exact hb
      have hs' : SRep I' st (w.putObj r (.deferred none)) := by
        refine ⟨fun b o hb => ?_, fun b o hb => ?_, ?_⟩
        · have hb : (if b = r then none else I b) = some o := hb
          by_cases hbr : b = r
          · rw [if_pos hbr] at hb; cases hb
          · rw [if_neg hbr] at hb
            rw [World.putObj_heap_other hbr]
            exact hs.imm b o hb
        · obtain ⟨k1, r', k2, k3⟩ := hs.objs b o hb
          have hbr : b ≠ r := by rintro rfl; rw [hIr] at k1; cases k1
          refine ⟨?_, r', ?_, orep_dmono hdle k3⟩
          · show (if b = r then none else I b) = none
            rw [if_neg hbr]; exact k1
          · rw [World.putObj_heap_other hbr]; exact k2
        · rw [World.putObj_size]; exact hs.keys
      refine .inl ⟨r, w.putObj r (.deferred none), hr, run_takeDeferred hwr, ?_⟩
      refine leaves_sound hF hrs hR hE L ds u fu I' st _ ?_ (fun r' hr' => ?_) hn2 ?_ ?_ hs' ?_ ?_ h
      · refine dsrep_dmono hdle ?_
        rwa [List.filter_cons_of_neg (by rw [e1]; simp)] at hds
      · have := hmk r' (by simp [hr'])
        refine ⟨this.1, ?_⟩
        show (if r' = r then none else I r') = _
        rw [if_neg (by rintro rfl; exact hn1 hr')]
        exact this.2
      · intro b o hb
        show (if b = r then none else I b) = some o
        rw [if_neg (by rintro rfl; rw [h0r] at hb; cases hb)]
        exact hI b o hb
      · exact hw.trans ⟨rfl, rfl, rfl, by rw [World.putObj_size]; exact Nat.le_refl _⟩
      · cases u with
        | returning => exact hu
        | panicking p => obtain ⟨v, h1, h2⟩ := hu; exact ⟨v, h1, vrep_dmono hdle _ _ h2⟩
      · exact fun t => vrep_dmono hdle _ _ (henv t)
    · have e1 : notMark d = true := by unfold notMark; split; (· rename_i r hr; exact absurd ⟨r, hr⟩ hm); rfl
      have e2 : markOf d = none := by unfold markOf; split; (· rename_i r hr; exact absurd ⟨r, hr⟩ hm); rfl
      have e3 : (d :: L).filterMap markOf = L.filterMap markOf := List.filterMap_cons_none e2
      rw [e3] at hmk hnd
      rw [List.filter_cons_of_pos e1] at hds
      cases ds with
      | nil => exact (show False from hds).elim
      | cons gp ds =>
        obtain ⟨g, ps⟩ := gp
        obtain ⟨⟨cap, us, k1, k2, k3⟩, hds⟩ := hds
        simp only [pleave] at h
        have hent := h.enters
        refine .inr ⟨fun hx => (by rw [hF.depth] at hx; simp at hx), .func g, cap, g, d.args ++ cap, k1, ?_, fun g' _ => hF.fn g', ?_⟩
        · rw [k1]
          simp only [invoke, callFunc_run hent]
        · rw [k2]
          refine (hF.callsD (h.out I w us fu hu hs k3)).mono fun en u' w' hh => ?_
          obtain ⟨⟨v, rfl⟩, I', st', g1, g2, g3, m', g4, g5⟩ := hh
          exact leaves_sound hF hrs hR hE L ds m' (settle u') I' st' w' (dsrep_dmono g1.d hds) (fun r hr => ⟨(hmk r hr).1, g1 _ _ (hmk r hr).2⟩) hnd (Imm.le_trans hI g1) (hw.trans g2) g3 g4 (fun t => vrep_mono g1 _ _ (henv t)) g5

theorem start_rel {fn : Func} {ps : List PV} {st : Store} {I : Imm} {w : World} {vs : List Value} (hpar : fn.params.size + fn.nfree ≤ fn.ntmps) (hlen : ps.length = fn.params.size + fn.nfree) (hs : SRep I st w) (hv : vreps I ps vs) (pn : List Nat) (nm : Bool) :
    Rel ⟨fn.ntmps, pn⟩ ⟨[], [], I, nm⟩ I ⟨initEnv 0 ps, st⟩ { tmps := vs.toArray ++ Array.replicate (fn.ntmps - vs.toArray.size) undef, defers := [] } w := by
  have hvl := vreps_length hv
  refine ⟨fun t => ?_, by simp; omega, ⟨I.le_refl, rfl, by simp, by simp, fun _ => rfl, by simp⟩, hs⟩
  have h1 := initEnv_spec 0 hv t
  have e : (vs.toArray ++ Array.replicate (fn.ntmps - vs.toArray.size) undef).getD t undef = (List.replicate 0 undef ++ vs).toArray.getD t undef := by
    simp only [List.replicate_zero, List.nil_append, Array.getD_eq_getD_getElem?]
    rcases Nat.lt_or_ge t vs.length with hlt | hge
    · rw [Array.getElem?_append_left (by simpa using hlt)]
    · rw [Array.getElem?_append_right (by simpa using hge)]
      rw [Array.getElem?_replicate]
      simp only [List.getElem?_toArray, List.getElem?_eq_none hge]
      split <;> rfl
  rw [e]
  exact h1

theorem pcalls_of_mwp (hmix : P.follows .mixedOrders = true) {g : FuncId} {fn : Func} {m : MFunc} (hf : P.funcs[g]? = some fn) (hname : (fn.name == "runtime.NumGoroutine") = false) (hm : convFunc P fn = some m)
    {ps : List PV} {st : Store} {Q : PEnd → Store → Prop} (hlen : ps.length = m.nparams) {R E : PV → Store → Prop} (hR : ∀ p st, R p st → RetView .ret p st Q) (hE : ∀ p st, E p st → RetView .panic p st Q) (h : mwp P m.body (retPost m.results R E) ⟨initEnv 0 ps, st⟩) : PCalls P g ps st Q := by
  unfold convFunc at hm
  split at hm
  · rename_i c hb
    split at hm
    · rename_i mc rs hmc hrs
      split at hm
      · rename_i hpar
        simp only [Option.some.injEq] at hm
        subst hm
        refine .inl ⟨⟨fn, hf, hname, by rw [hb]; rfl⟩, fun I w vs hs hv => ?_⟩
        have hW : Wide Fence.wide := ⟨fun _ => trivial, rfl, rfl⟩
        refine callsIn_wide (n := 0).1 (callsIn_of_wp_marks hf hb trivial ?_)
        have hrel := start_rel hpar hlen hs hv [] false
        refine wpIn_mono (code_sound hmix hW c mc hmc (.inl ⟨rfl, rfl⟩) _ I _ _ w hrel h) fun e a' w' hq => ?_
        have fin : ∀ {s : PS} {I' : Imm}, I.le I' → Calm w w' → Rel ⟨fn.ntmps, []⟩ ⟨[], [], I, false⟩ I' s a' w' → retPost rs R E .normal s → LeavesInM Fence.wide 0 P fn a'.tmps (fun en w' => Held I w (fun I' st' => ∃ pe, erep I' pe en ∧ Q pe st') w') a'.defers .returning w' := by
          intro s I' h1 h2 h3 h4
          have hd := h3.fix.defers
          exact leaves_sound hW hrs hR hE a'.defers [] .returning .returning I' s.st w' (by rw [hd]; trivial) h3.fix.marks h3.fix.nodup h1 h2 h3.st rfl h3.env h4
        cases e with
        | normal =>
          obtain ⟨I', s', h1, h2, h3, h4⟩ := hq
          exact fin h1 h2 h3 h4
        | ret =>
          obtain ⟨I', s', h1, h2, h3, h4⟩ := hq
          exact fin h1 h2 h3 h4
        | panic ch =>
          obtain ⟨v, rfl, I', st', h1, h2, h3, hd, p, h4, h5⟩ := hq
          have hd' := hd.defers
          exact leaves_sound hW hrs hR hE (e := []) a'.defers [] (.panicking p) _ I' st' w' (by rw [hd']; trivial) hd.marks hd.nodup h1 h2 h3 ⟨v, rfl, h4⟩ (fun t => by simp only [eget, vrep]) h5
        | exit id => obtain ⟨_, _, _, _, _, h4⟩ := hq; exact h4.elim
        | goto l => exact hq.elim
        | outgrown => exact hq.elim
      · cases hm
    · cases hm
  · cases hm

/-! ### Rounds -/
theorem eputs_spec {I : Imm} : ∀ (ts : List Nat) (ps : List PV) (vs : List Value) (e : Env) (tmps : Array Value), ts.length = ps.length → vreps I ps vs → (∀ t ∈ ts, t < tmps.size) → (∀ t, vrep I (eget e t) (tmps.getD t undef)) →
    ((ts.zip vs).foldl (fun (tmps : Array Value) (q : Nat × Value) => tmps.setIfInBounds q.1 q.2) tmps).size = tmps.size ∧
    ∀ t, vrep I (eget (eputs e ts ps) t) (((ts.zip vs).foldl (fun (tmps : Array Value) (q : Nat × Value) => tmps.setIfInBounds q.1 q.2) tmps).getD t undef)
  | [], [], vs, e, tmps, _, _, _, h => ⟨by simp, by simpa [eputs] using h⟩
  | t :: ts, p :: ps, [], e, tmps, _, h, _, _ => by simp [vreps] at h
  | t :: ts, p :: ps, v :: vs, e, tmps, hl, hr, hb, h => by
    simp only [vreps] at hr
    simp only [List.zip_cons_cons, List.foldl_cons, eputs]
    have ht := hb t (by simp)
    have ih := eputs_spec ts ps vs (eput e (some t) p) (tmps.setIfInBounds t v) (by simpa using hl) hr.2 (fun u hu => by simpa using hb u (by simp [hu])) fun u => by
      by_cases htu : t = u
      · subst htu
        rw [eget_eput_same]
        have : (tmps.setIfInBounds t v).getD t undef = v := by simp [ht]
        rw [this]; exact hr.1
      · rw [eget_eput_ne _ _ _ _ htu]
        have : (tmps.setIfInBounds t v).getD u undef = tmps.getD u undef := by simp [Array.getElem?_setIfInBounds, htu]
        rw [this]; exact h u
    exact ⟨by rw [ih.1]; simp, ih.2⟩
theorem SRep.putLoop {I : Imm} {st : Store} {w : World} (hs : SRep I st w) {l : Nat} {o o' : PObj} {r' : Obj} (hb : sget st l = some o) (hr : orep I o' r') : SRep I (sset st l o') (w.putObj l r') ∧ Calm w (w.putObj l r') :=
  ⟨hs.put hb hr World.putObj_size (World.putObj_heap_same (hs.obj_lt hb)) (fun c hc => World.putObj_heap_other hc), ⟨rfl, rfl, rfl, by rw [World.putObj_size]; exact Nat.le_refl _⟩⟩
theorem pround_of_mwp (hmix : P.follows .mixedOrders = true) {l : Nat} {key : LoopKey} {params : List Nat} {ma mb : MCode} (hconv : key.Conv P params ma mb) {e : Env} {st : Store} (hget : sget st l = some (.loop key e .ready none))
    {args : List PV} (hlen : params.length = args.length) {Q : PEnd → Store → Prop} (h : mwp P ma (roundA P l mb Q) ⟨eputs e params args, st⟩) : PRound P l args st Q := by
  refine ⟨fun I w vs hs ha => ?_⟩
  obtain ⟨hpar, hlt, hn1, hn2, N, keep, hN, hca, hcb⟩ := hconv
  obtain ⟨hIl, r, hw, fn, tmps, D, rfl, hsz, henv⟩ := hs.objs _ _ hget
  have hvl := vreps_length ha
  have hpsz : key.params.size = vs.length := by rw [← Array.length_toList, hpar, hlen, hvl]
  have hz : (key.params.zip vs.toArray).foldl (fun (tmps : Array Value) (q : Tmp × Value) => tmps.setIfInBounds q.1 q.2) tmps = (params.zip vs).foldl (fun (tmps : Array Value) (q : Nat × Value) => tmps.setIfInBounds q.1 q.2) tmps := by
    rw [← Array.foldl_toList, Array.toList_zip, hpar]
  obtain ⟨hsz2, henv2⟩ := eputs_spec params args vs e tmps hlen ha (fun t ht => by rw [hsz]; exact hlt t ht) henv
  refine ⟨_, hw, hpsz, ?_⟩
  have hW : Wide (Fence.wide.inRound l) := ⟨fun _ => trivial, rfl, rfl⟩
  refine roundIn_of_wpIn trivial ?_
  show key.assign.wpIn _ _ P _ { tmps := (key.params.zip vs.toArray).foldl (fun (tmps : Array Value) (q : Tmp × Value) => tmps.setIfInBounds q.1 q.2) tmps, defers := [] } w
  rw [hz]
  have hrel : Rel N ⟨[], [], I, true⟩ I ⟨eputs e params args, st⟩ { tmps := (params.zip vs).foldl (fun (tmps : Array Value) (q : Nat × Value) => tmps.setIfInBounds q.1 q.2) tmps, defers := [] } w :=
    ⟨henv2, by show Array.size _ = _; rw [hsz2, hsz, hN], ⟨I.le_refl, rfl, by simp, by simp, fun _ => rfl, by simp⟩, hs⟩
  refine wpIn_mono (code_sound hmix hW key.assign ma hca (.inr hn1) _ I _ _ w hrel h) fun ex a1 w1 hq => ?_
  cases ex with
  | normal =>
    obtain ⟨I1, s1, h1, h2, h3, h4⟩ := hq
    simp only [roundA] at h4
    split at h4
    · rename_i key1 e1 pend1 hget1
      obtain ⟨-, r1, hw1, fn1, tmps1, D1, rfl, hsz1, henv1⟩ := h3.st.objs _ _ hget1
      obtain ⟨hs2, hc2⟩ := h3.st.putLoop (o' := .loop key1 e1 .busy pend1) (r' := .loop { state := .busy, pending := pend1, fn := fn1, tmps := tmps1, params := key1.params, assign := key1.assign, body := key1.body, defers := D1 }) hget1 ⟨fn1, tmps1, D1, rfl, hsz1, henv1⟩
      refine ⟨_, run_beginRound hw1 rfl, ?_⟩
      refine wpIn_mono (code_sound hmix hW key.body mb hcb (.inr hn2) _ I1 ⟨s1.env, sset s1.st l (.loop key1 e1 .busy pend1)⟩ a1 _ ⟨h3.env, h3.size, h3.fix, hs2⟩ h4) fun ex a3 w3 hq => ?_
      have hc : Calm w _ := h2.trans hc2
      have fin : ∀ (jump : Option Code) (st3 : Store) (I3 : Imm) (key' : LoopKey) (e' : Env) (state' : LoopState) (pend' : Option Code), I1.le I3 → Calm (w1.putObj l (.loop { state := .busy, pending := pend1, fn := fn1, tmps := tmps1, params := key1.params, assign := key1.assign, body := key1.body, defers := D1 })) w3 → SRep I3 st3 w3 →
          sget st3 l = some (.loop key' e' state' pend') → Q (.ret (.bool jump.isNone)) (sset st3 l (.loop key' e' (if jump.isNone then .ready else .done) jump)) →
          ∃ v w', (Instr.endRound l jump).run P w3 = .ok v w' ∧ Held I w (fun I' st' => ∃ pe, erep I' pe (.returned v) ∧ Q pe st') w' := by
        intro jump st3 I3 key' e' state' pend' g1 g2 g3 hget3 hQ
        obtain ⟨-, r3, hw3, fn3, tmps3, D3, rfl, hsz3, henv3⟩ := g3.objs _ _ hget3
        obtain ⟨hs4, hc4⟩ := g3.putLoop (o' := .loop key' e' (if jump.isNone then .ready else .done) jump) (r' := .loop { state := if jump.isNone then .ready else .done, pending := jump, fn := fn3, tmps := tmps3, params := key'.params, assign := key'.assign, body := key'.body, defers := D3 }) hget3 ⟨fn3, tmps3, D3, rfl, hsz3, henv3⟩
        exact ⟨_, _, run_endRound jump hw3, I3, _, Imm.le_trans h1 g1, (hc.trans g2).trans hc4, hs4, .ret (.bool jump.isNone), ⟨_, rfl, by simp only [vrep]⟩, hQ⟩
      cases ex with
      | normal =>
        obtain ⟨I3, s3, g1, g2, g3, g4⟩ := hq
        simp only [roundB] at g4
        split at g4
        · rename_i key' e' state' pend' hget3
          exact fin none s3.st I3 key' e' state' pend' g1 g2 g3.st hget3 g4
        · exact g4.elim
      | ret =>
        obtain ⟨I3, s3, g1, g2, g3, g4⟩ := hq
        simp only [roundB] at g4
        split at g4
        · rename_i key' e' state' pend' hget3
          exact fin (some .ret) s3.st I3 key' e' state' pend' g1 g2 g3.st hget3 g4
        · exact g4.elim
      | exit id =>
        obtain ⟨I3, s3, g1, g2, g3, g4⟩ := hq
        simp only [roundB] at g4
        split at g4
        · rename_i key' e' state' pend' hget3
          exact fin (some (.exit id)) s3.st I3 key' e' state' pend' g1 g2 g3.st hget3 g4
        · exact g4.elim
      | panic ch =>
        obtain ⟨v, rfl, I', st', g1, g2, g3, hd, p, g4, g5⟩ := hq
        simp only [panicPost, roundB] at g5
      | goto l => exact hq.elim
      | outgrown => exact hq.elim
    · exact h4.elim
  | ret => obtain ⟨I1, s1, h1, h2, h3, h4⟩ := hq; exact h4.elim
  | exit id => obtain ⟨I1, s1, h1, h2, h3, h4⟩ := hq; exact h4.elim
  | panic ch => obtain ⟨v, rfl, I', st', g1, g2, g3, hd, p, g4, g5⟩ := hq; exact g5.elim
  | goto l => exact hq.elim
  | outgrown => exact hq.elim

end Go.Pv
/- The compact code is met by the model's own: functions that defer calls, and such as recover. -/
set_option linter.unusedSimpArgs false
namespace Go.Pv
variable {P : Program}

def flat : Code → List Code
  | .seq a b => flat a ++ flat b
  | c => [c]
/-- A list of statements, one after the other. -/
def wpl (F : Fence) (n : Nat) (P : Program) : List Code → (Exit → Act → World → Prop) → Act → World → Prop
  | [], Q, a, w => Q .normal a w
  | c :: l, Q, a, w => c.wpIn F n P (Exit.then (wpl F n P l Q) Q) a w
theorem Exit.then_mono {N N' : Act → World → Prop} {Q Q' : Exit → Act → World → Prop} (hn : ∀ a w, N a w → N' a w) (hq : ∀ e a w, Q e a w → Q' e a w) : ∀ e a w, Exit.then N Q e a w → Exit.then N' Q' e a w := by
  intro e a w h
  cases e <;> first | exact hn _ _ h | exact hq _ _ _ h
theorem wpl_mono {F : Fence} {n : Nat} : ∀ {l : List Code} {Q Q' : Exit → Act → World → Prop} {a : Act} {w : World}, wpl F n P l Q a w → (∀ e a w, Q e a w → Q' e a w) → wpl F n P l Q' a w
  | [], _, _, _, _, h, hq => hq _ _ _ h
  | _ :: _, _, _, _, _, h, hq => wpIn_mono h (Exit.then_mono (fun _ _ h => wpl_mono h hq) hq)
theorem wpl_append {F : Fence} {n : Nat} : ∀ {l m : List Code} {Q : Exit → Act → World → Prop} {a : Act} {w : World}, wpl F n P (l ++ m) Q a w → wpl F n P l (Exit.then (wpl F n P m Q) Q) a w
  | [], _, _, _, _, h => h
  | c :: l, m, Q, a, w, h => by
    refine wpIn_mono (Q := Exit.then (wpl F n P (l ++ m) Q) Q) h fun e a w hh => ?_
    cases e with
    | normal => exact wpl_append (l := l) hh
    | _ => exact hh
theorem wpIn_flat {F : Fence} {n : Nat} : ∀ {c : Code} {Q : Exit → Act → World → Prop} {a : Act} {w : World}, wpl F n P (flat c) Q a w → c.wpIn F n P Q a w := by
  have one : ∀ {c : Code} {Q : Exit → Act → World → Prop} {a : Act} {w : World}, wpl F n P [c] Q a w → c.wpIn F n P Q a w := fun h => wpIn_mono h fun e a w hh => by cases e <;> exact hh
  intro c
  induction c with
  | seq x y ihx ihy =>
    intro Q a w h
    have h2 := ihx (wpl_append (l := flat x) (m := flat y) h)
    refine wpIn_seq (wpIn_mono h2 fun e a w hh => ?_)
    cases e with
    | normal => exact ihy hh
    | _ => exact hh
  | _ => intro Q a w h; exact one h

/-! ### Deferred calls -/
def deferOf : Code → Option (Operand × List Operand)
  | .region _ ops false =>
    match ops.toList with
    | [o] =>
      match o.op, o.guard, o.dst with
      | .defer ⟨.value f, args, _⟩, none, none => some (f, args.toList)
      | _, _, _ => none
    | _ => none
  | _ => none
/-- The same, behind other operations of the region. -/
def deferROf : Code → Option (Array Oper × List Oper × Operand × List Operand)
  | .region _ ops false =>
    match ops.toList.reverse with
    | o :: p :: r =>
      match o.op, o.guard, o.dst with
      | .defer ⟨.value f, args, _⟩, none, none => some (ops, (p :: r).reverse, f, args.toList)
      | _, _, _ => none
    | _ => none
  | _ => none
/-- The body of a function that defers calls: its statements. -/
inductive MBody where
  | done
  | pre (ex : List Nat) (c : MCode) (b : MBody)
  | push (f : MX) (args : List MX) (b : MBody)
  | pushR (is : List MInst) (f : MX) (args : List MX) (b : MBody)
  deriving Inhabited
/-- The slots that a statement writes. -/
def dstsOf : Code → List Nat
  | .region _ ops _ => ops.toList.filterMap (·.dst)
  | .seq a b => dstsOf a ++ dstsOf b
  | .cond _ a b => dstsOf a ++ dstsOf b
  | .block _ c | .loop c | .scope c => dstsOf c
  | .rangeFunc _ _ a b => dstsOf a ++ dstsOf b
  | _ => []
/-- The results' slots that a statement leaves alone: they are known when it panics. -/
def exOf (cand : List Nat) (pushed : Bool) (c : Code) : List Nat := if pushed then cand.filter fun t => !(dstsOf c).contains t else []
def convBody (P : Program) (n : Nat) (pn cand keep : List Nat) : Bool → List Code → Option MBody
  | _, [] => some .done
  | pushed, c :: rest =>
    match deferOf c with
    | some (f, args) =>
      match convX f, convXs args, convBody P n pn cand keep true rest with
      | some f, some xs, some b => some (.push f xs b)
      | _, _, _ => none
    | none =>
      match deferROf c with
      | some (ops, init, f, args) =>
        match convInsts P ⟨n, if pushed then pn else []⟩ ops init, convX f, convXs args, convBody P n pn cand keep true rest with
        | some is, some f, some xs, some b => some (.pushR is f xs b)
        | _, _, _, _ => none
      | none =>
        match convCode P ⟨n, (if pushed then pn else []) ++ exOf cand pushed c⟩ keep c, convBody P n pn cand keep pushed rest with
        | some m, some b => some (.pre (exOf cand pushed c) m b)
        | _, _ => none
def epick (pn : List Nat) (e : Env) : Env := pn.map fun t => (t, eget e t)
/-- Over a body's statements; what is asked in the end depends on what was deferred, and on what the pinned slots are. -/
def mbwp (P : Program) (pn : List Nat) : MBody → Env → List (FuncId × List PV) → (Env → List (FuncId × List PV) → MPost) → PS → Prop
  | .done, E0, ds, K, s => K E0 ds .normal s
  | .pre ex c b, E0, ds, K, s => mwp P c (mthen (mbwp P pn b E0 ds K) (K (epick ex s.env ++ E0) ds)) s
  | .push f args b, _, ds, K, s =>
    match meval s.env f with
    | .func (.func g) fs cs => Enters P g ∧ mbwp P pn b (epick pn s.env) ((g, fs ++ args.map (meval s.env) ++ cs) :: ds) K s
    | _ => False
  | .pushR is f args b, _, ds, K, s => mops P is s (fun s =>
    match meval s.env f with
    | .func (.func g) fs cs => Enters P g ∧ mbwp P pn b (epick pn s.env) ((g, fs ++ args.map (meval s.env) ++ cs) :: ds) K s
    | _ => False) (fun _ _ => False)
def retPostD (P : Program) (rs : List MRes) (R E : PV → Store → Prop) (E0 : Env) (ds : List (FuncId × List PV)) : MPost
  | .normal, s | .ret, s => pleave P ds .returning s.st (pfin rs s.env R E)
  | .panic p, s => pleave P ds (.panicking p) s.st (pfin rs E0 R E)
  | .exit _, _ => False
def cellTmps : List ResultVar → List Nat
  | [] => []
  | .cell t _ :: rs => t :: cellTmps rs
  | .tmp _ :: rs => cellTmps rs
structure MDFunc where
  ntmps : Nat
  nparams : Nat
  pins : List Nat
  results : List MRes
  body : MBody
def convDFunc (P : Program) (fn : Func) : Option MDFunc :=
  match fn.body with
  | some c =>
    match convBody P fn.ntmps (cellTmps fn.results.toList) ((resTmps fn.results.toList).filter fun t => !(cellTmps fn.results.toList).contains t) (keepCode c ++ resTmps fn.results.toList) false (flat c), convRess P fn.results.toList with
    | some b, some rs => if fn.params.size + fn.nfree ≤ fn.ntmps then some ⟨fn.ntmps, fn.params.size + fn.nfree, cellTmps fn.results.toList, rs, b⟩ else none
    | _, _ => none
  | none => none

theorem eget_epick (pn : List Nat) (e : Env) (t : Nat) : eget (epick pn e) t = if t ∈ pn then eget e t else .any := by
  induction pn with
  | nil => simp [epick, eget]
  | cons u pn ih =>
    simp only [epick, List.map_cons, eget, List.mem_cons]
    by_cases h : u = t
    · subst h; simp
    · rw [if_neg h]
      have : ¬ t = u := fun e => h e.symm
      simp only [this, false_or]
      exact ih
theorem eget_pick_append (ex : List Nat) (e E0 : Env) (t : Nat) : eget (epick ex e ++ E0) t = if t ∈ ex then eget e t else eget E0 t := by
  induction ex with
  | nil => simp [epick]
  | cons u ex ih =>
    simp only [epick, List.map_cons, List.cons_append, eget, List.mem_cons]
    by_cases h : u = t
    · subst h; simp
    · rw [if_neg h]
      have : ¬ t = u := fun e => h e.symm
      simp only [this, false_or]
      exact ih
theorem deferOf_spec {c : Code} {f : Operand} {args : List Operand} (h : deferOf c = some (f, args)) : ∃ id o ats, c = .region id #[o] false ∧ o.op = .defer ⟨.value f, args.toArray, ats⟩ ∧ o.guard = none ∧ o.dst = none := by
  unfold deferOf at h
  split at h
  · rename_i id ops
    split at h
    · rename_i o ho
      split at h
      · rename_i f' args' ats h1 h2 h3
        simp only [Option.some.injEq, Prod.mk.injEq] at h
        obtain ⟨rfl, rfl⟩ := h
        have : ops = #[o] := by rw [← Array.toList_inj, ho]
        subst this
        exact ⟨id, o, ats, rfl, by rw [h1], h2, h3⟩
      · cases h
    · cases h
  · cases h

theorem deferROf_spec {c : Code} {ops : Array Oper} {init : List Oper} {f : Operand} {args : List Operand} (h : deferROf c = some (ops, init, f, args)) : ∃ id o ats, c = .region id ops false ∧ ops.toList = init ++ [o] ∧ o.op = .defer ⟨.value f, args.toArray, ats⟩ ∧ o.guard = none ∧ o.dst = none := by
  unfold deferROf at h
  split at h
  · rename_i id ops'
    split at h
    · rename_i o p r ho
      split at h
      · rename_i f' args' ats h1 h2 h3
        simp only [Option.some.injEq, Prod.mk.injEq] at h
        obtain ⟨rfl, rfl, rfl, rfl⟩ := h
        have e := congrArg List.reverse ho
        rw [List.reverse_reverse, List.reverse_cons] at e
        exact ⟨id, o, ats, rfl, e, by rw [h1], h2, h3⟩
      · cases h
    · cases h
  · cases h

section
variable {F : Fence} {n : Nat} {fn : Func} {rs : List MRes} {Q : PEnd → Store → Prop} {R E : PV → Store → Prop} {I0 : Imm} {w0 : World}
theorem body_sound (hmix : P.follows .mixedOrders = true) (hF : Wide F) (hround : F.round = none) (hrs : convRess P fn.results.toList = some rs) (hR : ∀ p st, R p st → RetView .ret p st Q) (hE : ∀ p st, E p st → RetView .panic p st Q) {nt : Nat} {pn cand keep : List Nat} :
    ∀ (l : List Code) (b : MBody) (pushed : Bool), convBody P nt pn cand keep pushed l = some b → ∀ (D : Fix) (I : Imm) (s : PS) (a : Act) (w : World) (E0 : Env) (ds : List (FuncId × List PV)), D.imm = I0 → D.noMarks = false → I0.le I → Calm w0 w →
      Rel ⟨nt, if pushed then pn else []⟩ D I s a w → dsrep I ds D.defers → (∀ t, eget E0 t = .any ∨ ∃ v, (t, v) ∈ D.pins ∧ vrep I (eget E0 t) v) → mbwp P pn b E0 ds (retPostD P rs R E) s →
      wpl F n P l (bodyPostM F n P fn (fun en w' => Held I0 w0 (fun I' st' => ∃ pe, erep I' pe en ∧ Q pe st') w')) a w := by
  have finR : ∀ (N : Lim) (D : Fix) (I : Imm) (s : PS) (a : Act) (w : World) (E0 : Env) (ds : List (FuncId × List PV)), D.imm = I0 → I0.le I → Calm w0 w → Rel N D I s a w → dsrep I ds D.defers →
      pleave P ds .returning s.st (pfin rs s.env R E) → LeavesInM F n P fn a.tmps (fun en w' => Held I0 w0 (fun I' st' => ∃ pe, erep I' pe en ∧ Q pe st') w') a.defers .returning w := by
    intro N D I s a w E0 ds hD hI hw hr hds h
    exact leaves_sound hF hrs hR hE a.defers ds .returning .returning I s.st w (by rw [hr.fix.defers]; exact hds) (fun r hm => hD ▸ hr.fix.marks r hm) hr.fix.nodup hI hw hr.st rfl hr.env h
  intro l
  induction l with
  | nil =>
    intro b pushed hc D I s a w E0 ds hD hnm hI hw hr hds hE0 h
    simp only [convBody, Option.some.injEq] at hc
    subst hc
    simp only [mbwp, retPostD] at h
    exact finR _ D I s a w E0 ds hD hI hw hr hds h
  | cons c l ih =>
    intro b pushed hc D I s a w E0 ds hD hnm hI hw hr hds hE0 h
    simp only [convBody] at hc
    split at hc
    · rename_i f args hdef
      split at hc
      · rename_i mf xs mb hf hxs hb
        simp only [Option.some.injEq] at hc
        subst hc
        simp only [mbwp] at h
        split at h
        · rename_i g fs cs hfe
          obtain ⟨hent, h⟩ := h
          obtain ⟨id, o, ats, rfl, ho, hg, hd⟩ := deferOf_spec hdef
          have hv := hr.x hf
          rw [hfe] at hv
          simp only [vrep] at hv
          obtain ⟨us, vs, hfv, hus, hvs⟩ := hv
          have hvx := xreps (ρ := meval s.env) (ev := a.eval) (fun y hy m hm => hr.x hm) hxs
          have hrun : (execOp a.eval o).run P w = .ok (.defer { target := .fn (.func g) vs.toArray, args := us.toArray ++ args.toArray.map a.eval }) w := by
            simp only [execOp, ho, resolve, hfv, Deferred.ofValue, Sem.run_bind, Sem.run_pure, Result.andThen_ok]
          refine wpIn_region ?_
          have hr1 : List.range (#[o] : Array Oper).size = [0] := rfl
          rw [hr1]
          simp only [wpOpsIn, List.getElem?_toArray, List.getElem?_cons_zero]
          have hwant : Region.wanted o (yielded #[o] a.tmps) = true := by simp [Region.wanted, hg]
          rw [if_pos hwant]
          refine ⟨fun f _ => hF.fn f, ?_⟩
          rw [hround, Oper.semAt_none, hrun]
          simp only [Oper.uponIn_defer, hd, Act.put]
          refine ih mb true hb ⟨{ target := .fn (.func g) vs.toArray, args := us.toArray ++ args.toArray.map a.eval } :: D.defers, pn.map fun t => (t, a.tmps.getD t undef), D.imm, D.noMarks⟩ I s _ w (epick pn s.env) _ hD hnm hI hw ?_ ?_ ?_ h
          · refine ⟨hr.env, hr.size, ⟨hr.fix.imm, ?_, hr.fix.marks, hr.fix.nodup, hr.fix.none, fun q hq => ?_⟩, hr.st⟩
            · show List.filter notMark (_ :: a.defers) = _
              rw [List.filter_cons_of_pos (by rfl), hr.fix.defers]
            · simp only [List.mem_map] at hq
              obtain ⟨t, ht, rfl⟩ := hq
              exact ⟨ht, rfl⟩
          · refine ⟨⟨vs.toArray, us ++ args.map a.eval ++ vs, rfl, ?_, vreps_append (vreps_append hus hvx) hvs⟩, hds⟩
            simp
          · intro t
            rw [eget_epick]
            by_cases ht : t ∈ pn
            · rw [if_pos ht]
              exact .inr ⟨a.tmps.getD t undef, List.mem_map.2 ⟨t, ht, rfl⟩, hr.env t⟩
            · rw [if_neg ht]; exact .inl rfl
        · exact h.elim
      · cases hc
    · split at hc
      · rename_i ops init f args hdef
        split at hc
        · rename_i is mf xs mb his hf hxs hb
          simp only [Option.some.injEq] at hc
          subst hc
          simp only [mbwp] at h
          obtain ⟨id, o, ats, rfl, hops, ho, hg, hd⟩ := deferROf_spec hdef
          refine wpIn_region ?_
          have hr1 : List.range ops.size = List.range' 0 init.length ++ [init.length] := by
            rw [← Array.length_toList, hops, List.length_append, List.length_singleton, List.range_succ, List.range_eq_range']
          have hlast : ops[init.length]? = some o := by rw [← Array.getElem?_toList, hops]; simp
          have hinit : ∀ j : Nat, init[j]? = ops[0 + j]? ∨ init.length ≤ j := fun j => by
            by_cases hj : j < init.length
            · left
              rw [← Array.getElem?_toList, hops, Nat.zero_add, List.getElem?_append_left hj]
            · exact .inr (by omega)
          rw [hr1]
          refine region_soundLT (n := n) hF (D := D) (I0 := I) (w0 := w) (QP := fun _ _ => False) (fun a1 w1 hh => ?_) (fun ch a1 w1 hh => ?_) init 0 is (fun j hj => by rcases hinit j with e | e; exact e; omega) his I s a w I.le_refl (Calm.refl w) hr h
          · obtain ⟨I1, s1, hI1, hw1, hr1, hk⟩ := hh
            split at hk
            · rename_i g fs cs hfe
              obtain ⟨hent, h⟩ := hk
              have hv := hr1.x hf
              rw [hfe] at hv
              simp only [vrep] at hv
              obtain ⟨us, vs, hfv, hus, hvs⟩ := hv
              have hvx := xreps (ρ := meval s1.env) (ev := a1.eval) (fun y hy m hm => hr1.x hm) hxs
              have hrun : (execOp a1.eval o).run P w1 = .ok (.defer { target := .fn (.func g) vs.toArray, args := us.toArray ++ args.toArray.map a1.eval }) w1 := by
                simp only [execOp, ho, resolve, hfv, Deferred.ofValue, Sem.run_bind, Sem.run_pure, Result.andThen_ok]
              simp only [wpOpsIn, hlast]
              have hwant : Region.wanted o (yielded ops a1.tmps) = true := by simp [Region.wanted, hg]
              rw [if_pos hwant]
              refine ⟨fun f _ => hF.fn f, ?_⟩
              rw [hround, Oper.semAt_none, hrun]
              simp only [Oper.uponIn_defer, hd, Act.put]
              refine ih mb true hb ⟨{ target := .fn (.func g) vs.toArray, args := us.toArray ++ args.toArray.map a1.eval } :: D.defers, pn.map fun t => (t, a1.tmps.getD t undef), D.imm, D.noMarks⟩ I1 s1 _ w1 (epick pn s1.env) _ hD hnm (Imm.le_trans hI hI1) (hw.trans hw1) ?_ ?_ ?_ h
              · refine ⟨hr1.env, hr1.size, ⟨hr1.fix.imm, ?_, hr1.fix.marks, hr1.fix.nodup, hr1.fix.none, fun q hq => ?_⟩, hr1.st⟩
                · show List.filter notMark (_ :: a1.defers) = _
                  rw [List.filter_cons_of_pos (by rfl), hr1.fix.defers]
                · simp only [List.mem_map] at hq
                  obtain ⟨t, ht, rfl⟩ := hq
                  exact ⟨ht, rfl⟩
              · refine ⟨⟨vs.toArray, us ++ args.map a1.eval ++ vs, rfl, ?_, vreps_append (vreps_append hus hvx) hvs⟩, dsrep_dmono hI1.d hds⟩
                simp
              · intro t
                rw [eget_epick]
                by_cases ht : t ∈ pn
                · rw [if_pos ht]
                  exact .inr ⟨a1.tmps.getD t undef, List.mem_map.2 ⟨t, ht, rfl⟩, hr1.env t⟩
                · rw [if_neg ht]; exact .inl rfl
            · exact hk.elim
          · obtain ⟨_, _, _, _, _, _, _, _, _, _, hh⟩ := hh
            exact hh.elim
        · cases hc
      · split at hc
        · rename_i m mb hm hb
          simp only [Option.some.injEq] at hc
          subst hc
          simp only [mbwp] at h
          have hr' : Rel ⟨nt, (if pushed then pn else []) ++ exOf cand pushed c⟩ ⟨D.defers, D.pins ++ (exOf cand pushed c).map fun t => (t, a.tmps.getD t undef), D.imm, D.noMarks⟩ I s a w := by
            refine ⟨hr.env, hr.size, ⟨hr.fix.imm, hr.fix.defers, hr.fix.marks, hr.fix.nodup, hr.fix.none, fun q hq => ?_⟩, hr.st⟩
            rcases List.mem_append.1 hq with hq | hq
            · exact ⟨List.mem_append_left _ (hr.fix.pins q hq).1, (hr.fix.pins q hq).2⟩
            · obtain ⟨t, ht, rfl⟩ := List.mem_map.1 hq
              exact ⟨List.mem_append_right _ ht, rfl⟩
          have back : ∀ {I' : Imm} {s' : PS} {a' : Act} {w' : World}, Rel ⟨nt, (if pushed then pn else []) ++ exOf cand pushed c⟩ ⟨D.defers, D.pins ++ (exOf cand pushed c).map fun t => (t, a.tmps.getD t undef), D.imm, D.noMarks⟩ I' s' a' w' → Rel ⟨nt, if pushed then pn else []⟩ D I' s' a' w' := fun h =>
            ⟨h.env, h.size, ⟨h.fix.imm, h.fix.defers, h.fix.marks, h.fix.nodup, h.fix.none, fun q hq => ⟨(hr.fix.pins q hq).1, (h.fix.pins q (List.mem_append_left _ hq)).2⟩⟩, h.st⟩
          have hnm' : (⟨D.defers, D.pins ++ (exOf cand pushed c).map fun t => (t, a.tmps.getD t undef), D.imm, D.noMarks⟩ : Fix).noMarks = false := hnm
          refine wpIn_mono (code_sound hmix hF c m hm (.inl ⟨hround, hnm'⟩) _ I s a w hr' h) fun e a' w' hq => ?_
          cases e with
          | normal =>
            obtain ⟨I', s', h1, h2, h3, h4⟩ := hq
            exact ih mb pushed hb D I' s' a' w' E0 ds hD hnm (Imm.le_trans hI h1) (hw.trans h2) (back h3) (dsrep_dmono h1.d hds) (fun t => (hE0 t).imp id fun ⟨v, k1, k2⟩ => ⟨v, k1, vrep_mono h1 _ _ k2⟩) h4
          | ret =>
            obtain ⟨I', s', h1, h2, h3, h4⟩ := hq
            exact finR _ D I' s' a' w' E0 ds hD (Imm.le_trans hI h1) (hw.trans h2) (back h3) (dsrep_dmono h1.d hds) h4
          | panic ch =>
            obtain ⟨v, rfl, I', st', h1, h2, h3, hd, p, h4, h5⟩ := hq
            refine leaves_sound hF hrs hR hE (e := epick (exOf cand pushed c) s.env ++ E0) a'.defers ds (.panicking p) _ I' st' w' (by rw [hd.defers]; exact dsrep_dmono h1.d hds) (fun r hm => hD ▸ hd.marks r hm) hd.nodup (Imm.le_trans hI h1) (hw.trans h2) h3 ⟨v, rfl, h4⟩ (fun t => ?_) h5
            rw [eget_pick_append]
            by_cases ht : t ∈ exOf cand pushed c
            · rw [if_pos ht, (hd.pins (t, a.tmps.getD t undef) (List.mem_append_right _ (List.mem_map.2 ⟨t, ht, rfl⟩))).2]
              exact vrep_mono h1 _ _ (hr.env t)
            rw [if_neg ht]
            rcases hE0 t with k | ⟨v', k1, k2⟩
            · rw [k]; simp only [vrep]
            · rw [(hd.pins (t, v') (List.mem_append_left _ k1)).2]; exact vrep_mono h1 _ _ k2
          | exit id => obtain ⟨_, _, _, _, _, h4⟩ := hq; exact h4.elim
          | goto l => exact hq.elim
          | outgrown => exact hq.elim
        · cases hc
end
/-- Function g of P, one that defers calls, is the compact function m. -/
def HasD (P : Program) (g : FuncId) (m : MDFunc) : Prop := ∃ fn, P.funcs[g]? = some fn ∧ (fn.name == "runtime.NumGoroutine") = false ∧ convDFunc P fn = some m
theorem HasD.calls (hmix : P.follows .mixedOrders = true) {g : FuncId} {m : MDFunc} (h : HasD P g m) {ps : List PV} {st : Store} {Q : PEnd → Store → Prop} (hlen : ps.length = m.nparams)
    {R E : PV → Store → Prop} (hR : ∀ p st, R p st → RetView .ret p st Q) (hE : ∀ p st, E p st → RetView .panic p st Q)
    (hw : mbwp P m.pins m.body [] [] (retPostD P m.results R E) ⟨initEnv 0 ps, st⟩) : PCalls P g ps st Q := by
  obtain ⟨fn, hf, hname, hm⟩ := h
  unfold convDFunc at hm
  split at hm
  · rename_i c hb
    split at hm
    · rename_i mb rs hmb hrs
      split at hm
      · rename_i hpar
        simp only [Option.some.injEq] at hm
        subst hm
        refine .inl ⟨⟨fn, hf, hname, by rw [hb]; rfl⟩, fun I w vs hs hv => ?_⟩
        have hW : Wide Fence.wide := ⟨fun _ => trivial, rfl, rfl⟩
        refine callsIn_wide (n := 0).1 (callsIn_of_wp_marks hf hb trivial (wpIn_flat ?_))
        have hrel := start_rel hpar hlen hs hv [] false
        exact body_sound hmix hW rfl hrs hR hE (flat c) mb false hmb _ I _ _ w [] [] rfl rfl I.le_refl (Calm.refl w) hrel trivial (fun t => .inl rfl) hw
      · cases hm
    · cases hm
  · cases hm

/-! ### Functions that recover -/
/-- The first region of a function that recovers: what is recovered, and perhaps a slot to which it goes at once. -/
def recovOf : Code → Option (Nat × Option Nat)
  | .region _ ops false =>
    match ops.toList with
    | [o] =>
      match o.op, o.guard, o.dst with
      | .call ⟨.builtin .recover, _, _⟩, none, some t => some (t, none)
      | _, _, _ => none
    | [o, o2] =>
      match o.op, o.guard, o.dst, o2.op, o2.guard, o2.dst with
      | .call ⟨.builtin .recover, _, _⟩, none, some t, .assign (.tmp t'), none, some t2 => if t' = t then some (t, some t2) else none
      | _, _, _, _, _, _ => none
    | _ => none
  | _ => none
def recov2 (t : Nat) (d : Option Nat) (m : MCode) : MCode :=
  match d with
  | none => m
  | some t2 => .seq (.region [⟨some t2, none, .val (.mv (.tmp t))⟩] []) m
theorem recovOf_spec {c : Code} {t : Nat} {d : Option Nat} (h : recovOf c = some (t, d)) : ∃ id o rest args ats, c = .region id (o :: rest).toArray false ∧ o.op = .call ⟨.builtin .recover, args, ats⟩ ∧ o.guard = none ∧ o.dst = some t ∧
    ((rest = [] ∧ d = none) ∨ ∃ o2 t2, rest = [o2] ∧ d = some t2 ∧ o2.op = .assign (.tmp t) ∧ o2.guard = none ∧ o2.dst = some t2) := by
  unfold recovOf at h
  split at h
  · rename_i id ops
    split at h
    · rename_i o ho
      split at h
      · rename_i args ats t' h1 h2 h3
        simp only [Option.some.injEq, Prod.mk.injEq] at h
        obtain ⟨rfl, rfl⟩ := h
        have : ops = [o].toArray := by rw [← Array.toList_inj, ho]
        subst this
        exact ⟨id, o, [], args, ats, rfl, h1, h2, h3, .inl ⟨rfl, rfl⟩⟩
      · cases h
    · rename_i o o2 ho
      split at h
      · rename_i args ats t1 t' t2 h1 h2 h3 h4 h5 h6
        split at h
        · rename_i e
          subst e
          simp only [Option.some.injEq, Prod.mk.injEq] at h
          obtain ⟨rfl, rfl⟩ := h
          have : ops = [o, o2].toArray := by rw [← Array.toList_inj, ho]
          subst this
          exact ⟨id, o, [o2], args, ats, rfl, h1, h2, h3, .inr ⟨o2, t2, rfl, rfl, h4, h5, h6⟩⟩
        · cases h
      · cases h
    · cases h
  · cases h
def convList (P : Program) (N : Lim) (keep : List Nat) : List Code → Option MCode
  | [] => some .skip
  | c :: l =>
    match convCode P N keep c, convList P N keep l with
    | some m, some r => some (.seq m r)
    | _, _ => none
structure MRFunc where
  ntmps : Nat
  nparams : Nat
  dst : Nat
  results : List MRes
  body : MCode
def convRFunc (P : Program) (fn : Func) : Option MRFunc :=
  match fn.body with
  | some c =>
    match flat c with
    | c0 :: rest =>
      match recovOf c0, convList P ⟨fn.ntmps, []⟩ (keepCode c ++ resTmps fn.results.toList) rest, convRess P fn.results.toList with
      | some (t, d), some m, some rs => if fn.params.size + fn.nfree ≤ fn.ntmps ∧ (t < fn.ntmps ∧ ∀ t2, d = some t2 → t2 < fn.ntmps) ∧ rest.all noRF = true then some ⟨fn.ntmps, fn.params.size + fn.nfree, t, rs, recov2 t d m⟩ else none
      | _, _, _ => none
    | [] => none
  | none => none
theorem list_sound (hmix : P.follows .mixedOrders = true) {F : Fence} {n : Nat} (hF : Wide F) {N : Lim} {D : Fix} {keep : List Nat} : ∀ (l : List Code) (m : MCode), convList P N keep l = some m → l.all noRF = true →
    ∀ (Q : MPost) (I : Imm) (s : PS) (a : Act) (w : World), Rel N D I s a w → mwp P m Q s → wpl F n P l (lift N D I w Q) a w
  | [], m, hc, _, Q, I, s, a, w, hr, h => by
    simp only [convList, Option.some.injEq] at hc
    subst hc
    exact ⟨I, s, I.le_refl, Calm.refl w, hr, h⟩
  | c :: l, m, hc, hn, Q, I, s, a, w, hr, h => by
    simp only [convList] at hc
    simp only [List.all_cons, Bool.and_eq_true] at hn
    split at hc
    · rename_i mc ml h1 h2
      simp only [Option.some.injEq] at hc
      subst hc
      simp only [mwp] at h
      refine wpIn_mono (code_sound hmix hF c mc h1 (.inr hn.1) _ I s a w hr h) fun e a' w' hq => ?_
      cases e with
      | normal =>
        obtain ⟨I', s', g1, g2, g3, g4⟩ := hq
        exact wpl_mono (list_sound hmix hF l ml h2 hn.2 Q I' s' a' w' g3 g4) fun e a'' w'' hq => lift_from g1 g2 _ _ _ hq
      | exit id => exact hq
      | ret => exact hq
      | panic ch => exact hq
      | goto l => exact hq
      | outgrown => exact hq
    · cases hc
def wpSl (F : Fence) (n : Nat) (P : Program) : List Code → (Exit → Act → List Frame → World → Prop) → Act → List Frame → World → Prop
  | [], Q, a, cs, w => Q .normal a cs w
  | c :: l, Q, a, cs, w => c.wpSIn F n P (Exit.thenS (wpSl F n P l Q) Q) a cs w
theorem wpSIn_mono {F : Fence} {n : Nat} {c : Code} {Q Q' : Exit → Act → List Frame → World → Prop} {a : Act} {cs : List Frame} {w : World} (h : c.wpSIn F n P Q a cs w) (hq : ∀ e a cs w, Q e a cs w → Q' e a cs w) : c.wpSIn F n P Q' a cs w :=
  fun b k h1 h2 h3 h4 => let ⟨e, a', cs', w', l, q, r⟩ := h b k h1 h2 h3 h4; ⟨e, a', cs', w', l, hq _ _ _ _ q, r⟩
theorem wpSl_append {F : Fence} {n : Nat} : ∀ {l m : List Code} {Q : Exit → Act → List Frame → World → Prop} {a : Act} {cs : List Frame} {w : World}, wpSl F n P (l ++ m) Q a cs w → wpSl F n P l (Exit.thenS (wpSl F n P m Q) Q) a cs w
  | [], _, _, _, _, _, h => h
  | c :: l, m, Q, a, cs, w, h => by
    refine wpSIn_mono (Q := Exit.thenS (wpSl F n P (l ++ m) Q) Q) h fun e a cs w hh => ?_
    cases e with
    | normal => exact wpSl_append (l := l) hh
    | _ => exact hh
theorem wpSIn_flat {F : Fence} {n : Nat} : ∀ {c : Code} {Q : Exit → Act → List Frame → World → Prop} {a : Act} {cs : List Frame} {w : World}, wpSl F n P (flat c) Q a cs w → c.wpSIn F n P Q a cs w := by
  have one : ∀ {c : Code} {Q : Exit → Act → List Frame → World → Prop} {a : Act} {cs : List Frame} {w : World}, wpSl F n P [c] Q a cs w → c.wpSIn F n P Q a cs w := fun h => wpSIn_mono h fun e a cs w hh => by cases e <;> exact hh
  intro c
  induction c with
  | seq x y ihx ihy =>
    intro Q a cs w h
    have h2 := ihx (wpSl_append (l := flat x) (m := flat y) h)
    refine wpSIn_seq (wpSIn_mono h2 fun e a cs w hh => ?_)
    cases e with
    | normal => exact ihy hh
    | _ => exact hh
  | _ => intro Q a cs w h; exact one h
theorem wpSl_of_wpl {F : Fence} {n : Nat} (hro : F.round = none) : ∀ {l : List Code} {Q : Exit → Act → List Frame → World → Prop} {a : Act} {cs : List Frame} {w : World}, wpl F n P l (fun e a w => Q e a cs w) a w → wpSl F n P l Q a cs w
  | [], _, _, _, _, h => h
  | c :: l, Q, a, cs, w, h => wpSIn_of_wpIn hro (wpIn_mono h fun e a w hh => by
      cases e with
      | normal => exact wpSl_of_wpl hro hh
      | _ => exact hh)
/-- What recover hands over. -/
def recovered : PMode → PV
  | .returning => .val .nilIface
  | .panicking p => p
theorem ekill_nil : ∀ e : Env, ekill [] e = e
  | [] => rfl
  | (t, p) :: e => by simp [ekill, ekill_nil e]
theorem recov2_mwp {P : Program} {t t2 : Nat} {m : MCode} {Q : MPost} {e : Env} {st : Store} (h : mwp P (recov2 t (some t2) m) Q ⟨e, st⟩) : mwp P m Q ⟨eput e (some t2) (eget e t), st⟩ := by
  have h2 : mwp P m Q ⟨ekill [] (eput e (some t2) (eget e t)), st⟩ := by
    simp only [recov2, mwp, mops, mop, mval, meval] at h
    rcases h with h | h
    · exact h
    · exact h.elim
  have e1 : ekill [] (eput e (some t2) (eget e t)) = eput e (some t2) (eget e t) := ekill_nil _
  rw [e1] at h2
  exact h2
/-- Function g of P, one that recovers, is the compact function m. -/
def HasR (P : Program) (g : FuncId) (m : MRFunc) : Prop := ∃ fn, P.funcs[g]? = some fn ∧ (fn.name == "runtime.NumGoroutine") = false ∧ convRFunc P fn = some m
theorem HasR.pdef (hmix : P.follows .mixedOrders = true) {g : FuncId} {m : MRFunc} (h : HasR P g m) {ps : List PV} {u : PMode} {st : Store} {Q : PMode → Store → Prop} (hlen : ps.length = m.nparams)
    (hw : mwp P m.body (retPost m.results (fun _ st' => Q .returning st') (fun _ _ => False)) ⟨eput (initEnv 0 ps) (some m.dst) (recovered u), st⟩) : PDef P g ps u st Q := by
  obtain ⟨fn, hf, hname, hm⟩ := h
  unfold convRFunc at hm
  split at hm
  · rename_i c hb
    split at hm
    · rename_i c0 rest hfl
      split at hm
      · rename_i t d mb rs hrec hmb hrs
        split at hm
        · rename_i hcond
          obtain ⟨hpar, ⟨ht, ht2⟩, hnrf⟩ := hcond
          simp only [Option.some.injEq] at hm
          subst hm
          refine ⟨⟨fn, hf, hname, by rw [hb]; rfl⟩, fun I w vs fu hu hs hv => ?_⟩
          have hW : Wide Fence.wide := ⟨fun _ => trivial, rfl, rfl⟩
          refine callsDIn_of_wpSIn hf hb trivial fun c₀ cs hmode => ?_
          refine wpSIn_flat ?_
          rw [hfl]
          obtain ⟨id, o, orest, args, ats, rfl, ho, hg, hd, horest⟩ := recovOf_spec hrec
          refine wpSIn_region ?_
          have hrun : ∀ ev : Operand → Value, (execOp ev o).run P w = .ok .recover w := by
            intro ev
            simp only [execOp, ho, resolve, Sem.run_bind, Sem.run_pure, Result.andThen_ok, invoke, builtin]
          have hrel := start_rel hpar hlen hs hv [] true
          -- the rest, from a value that stands for what was recovered
          have fin : ∀ (e0 : Env) (a0 : Act) (cs' : List Frame) (u' : FrameMode), Rel ⟨fn.ntmps, []⟩ ⟨[], [], I, true⟩ I ⟨e0, st⟩ a0 w → mwp P mb (retPost rs (fun _ st' => Q .returning st') (fun _ _ => False)) ⟨e0, st⟩ → cs' = { c₀ with mode := u' } :: cs → settle u' = .returning →
              wpSl Fence.wide 0 P rest (bodyPostS P fn c₀ cs fun e fu' w' => (∃ v, e = .returned v) ∧ Held I w (fun I' st' => ∃ u', mrep I' u' (settle fu') ∧ Q u' st') w') a0 cs' w := by
            intro e0 a0 cs' u' hrel' hw hcs hset
            refine wpSl_of_wpl rfl ?_
            refine wpl_mono (list_sound hmix hW rest mb hmb hnrf _ I _ _ w hrel' hw) fun e a' w' hq => ?_
            have done : ∀ {s : PS} {I' : Imm}, I.le I' → Calm w w' → Rel ⟨fn.ntmps, []⟩ ⟨[], [], I, true⟩ I' s a' w' → retPost rs (fun _ st' => Q .returning st') (fun _ _ => False) .normal s →
                a'.defers = [] ∧ ∃ u', cs' = { c₀ with mode := u' } :: cs ∧ ∃ v, (results fn a'.tmps).run P w' = .ok v w' ∧ (∃ v', (Ending.returned v) = .returned v') ∧ Held I w (fun I' st' => ∃ m', mrep I' m' (settle u') ∧ Q m' st') w' := by
              intro s I' h1 h2 h3 h4
              simp only [retPost] at h4
              obtain ⟨qs, us, h5, h6, h7⟩ := results_sound h3.env h3.st _ _ hrs h4
              have hdef : a'.defers = [] := by
                have e1 := h3.fix.none rfl
                have e2 := h3.fix.defers
                cases hds : a'.defers with
                | nil => rfl
                | cons d L =>
                  exfalso
                  rw [hds] at e1 e2
                  by_cases hmk : ∃ r, d.target = .collected r
                  · obtain ⟨r, hr⟩ := hmk
                    rw [List.filterMap_cons_some (show markOf d = some r by unfold markOf; rw [hr])] at e1
                    cases e1
                  · rw [List.filter_cons_of_pos (show notMark d = true by unfold notMark; split; (· rename_i r hr; exact absurd ⟨r, hr⟩ hmk); rfl)] at e2
                    cases e2
              have hrun : (results fn a'.tmps).run P w' = .ok (if hh : us.length = 1 then us[0] else .tuple us.toArray) w' := by
                rw [results_eq]
                have e : fn.results = fn.results.toList.toArray := by simp
                rw [e, List.mapM_toArray]
                simp only [Sem.run_bind, Sem.run_map, h7, Result.andThen_ok, Sem.run_pure]
                rfl
              exact ⟨hdef, u', hcs, _, hrun, ⟨_, rfl⟩, I', s.st, h1, h2, h3.st, .returning, hset, h5⟩
            cases e with
            | normal => obtain ⟨I', s', h1, h2, h3, h4⟩ := hq; exact done h1 h2 h3 h4
            | ret => obtain ⟨I', s', h1, h2, h3, h4⟩ := hq; exact done h1 h2 h3 h4
            | panic ch => obtain ⟨v, rfl, I', st', h1, h2, h3, hd, p, h4, h5⟩ := hq; exact h5.elim
            | exit id => obtain ⟨_, _, _, _, _, h4⟩ := hq; exact h4.elim
            | goto l => exact hq.elim
            | outgrown => exact hq.elim
          have step : ∀ (v : Value) (cs' : List Frame) (u' : FrameMode), vrep I (recovered u) v → cs' = { c₀ with mode := u' } :: cs → settle u' = .returning →
              wpOpsSIn Fence.wide 0 P (o :: orest).toArray (Exit.thenS (wpSl Fence.wide 0 P rest (bodyPostS P fn c₀ cs fun e fu' w' => (∃ v, e = .returned v) ∧ Held I w (fun I' st' => ∃ u', mrep I' u' (settle fu') ∧ Q u' st') w')) (bodyPostS P fn c₀ cs fun e fu' w' => (∃ v, e = .returned v) ∧ Held I w (fun I' st' => ∃ u', mrep I' u' (settle fu') ∧ Q u' st') w'))
                (List.range' 1 orest.length) (Act.put { tmps := vs.toArray ++ Array.replicate (fn.ntmps - vs.toArray.size) undef, defers := [] } (some t) v) cs' w := by
            intro v cs' u' hv' hcs hset
            have hrel' : Rel ⟨fn.ntmps, []⟩ ⟨[], [], I, true⟩ I ⟨eput (initEnv 0 ps) (some t) (recovered u), st⟩ (Act.put { tmps := vs.toArray ++ Array.replicate (fn.ntmps - vs.toArray.size) undef, defers := [] } (some t) v) w :=
              hrel.put I.le_refl hrel.st (fun t' h => by cases h; exact ⟨ht, by simp⟩) (fun _ => hv')
            rcases horest with ⟨rfl, rfl⟩ | ⟨o2, t2, rfl, rfl, ho2, hg2, hd2⟩
            · exact fin _ _ cs' u' hrel' hw hcs hset
            · have hrg : List.range' 1 [o2].length = [1] := rfl
              rw [hrg]
              simp only [wpOpsSIn, List.getElem?_toArray, List.getElem?_cons_succ, List.getElem?_cons_zero]
              refine ⟨fun f _ => trivial, ?_⟩
              have hwant : ∀ y, Region.wanted o2 y = true := fun y => by simp [Region.wanted, hg2]
              rw [if_pos (hwant _)]
              generalize Act.put { tmps := vs.toArray ++ Array.replicate (fn.ntmps - vs.toArray.size) undef, defers := [] } (some t) v = a1 at hrel' ⊢
              have hrun2 : (execOp a1.eval o2).run P w = .ok (.value (a1.tmps.getD t undef)) w := by
                simp only [execOp, ho2, Act.eval, Sem.run_pure]
              rw [hrun2]
              simp only [hd2]
              exact fin _ _ cs' u' (hrel'.put I.le_refl hrel'.st (fun t' h => by cases h; exact ⟨ht2 _ rfl, by simp⟩) (fun _ => hrel'.env t)) (recov2_mwp hw) hcs hset
          have hr1 : List.range ((o :: orest).toArray).size = 0 :: List.range' 1 orest.length := by
            simp only [List.size_toArray, List.length_cons]
            rw [List.range_eq_range', List.range'_succ]
          rw [hr1]
          simp only [wpOpsSIn, List.getElem?_toArray, List.getElem?_cons_zero]
          refine ⟨fun f _ => trivial, ?_⟩
          have hwant : ∀ y, Region.wanted o y = true := fun y => by simp [Region.wanted, hg]
          rw [if_pos (hwant _)]
          rw [hrun]
          simp only [hd]
          cases u with
          | returning =>
            have hu : fu = .returning := hu
            subst hu
            have e : recoverD (c₀ :: cs) = none := by simp only [recoverD, hmode]
            rw [e]
            exact step .nilIface (c₀ :: cs) .returning (by simp only [recovered, vrep]) (by rw [← hmode]) rfl
          | panicking p =>
            obtain ⟨v, rfl, hv'⟩ := hu
            have e : recoverD (c₀ :: cs) = some (v, { c₀ with mode := .panicking [{ v, recovered := true }] } :: cs) := by simp only [recoverD, hmode]
            rw [e]
            exact step v _ (.panicking [{ v, recovered := true }]) hv' rfl rfl
        · cases hm
      · cases hm
    · cases hm
  · cases hm
end Go.Pv
