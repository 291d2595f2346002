/- The compact code is met by the model's own: control, functions. -/
import Derived.Test.YtbjfmedpaohpnaaLSe
set_option linter.unusedSimpArgs false
namespace Go.Pv
variable {P : Program}

section
variable {F : Fence} {n : Nat} {Q : Exit → Act → World → Prop} {a : Act} {w : World}

/-- A loop whose measure stands in no slot. -/
theorem wpIn_loop_ghost {c : Code} (J : Nat → Act → World → Prop) (h₀ : ∃ j, J j a w)
    (round : ∀ j a w, J j a w → c.wpIn F n P (Exit.then (fun a' w' => ∃ i, i < j ∧ J i a' w') Q) a w) : (Code.loop c).wpIn F n P Q a w := by
  intro b k cs hro hb hr
  have key : ∀ j a w, J j a w →
      ∃ e a' w', Q e a' w' ∧ ArrivesIn (Machine.fenced P F) P (lone (b.atR a (.code c :: .inLoop c :: k)) cs w) b k cs e a' w' := by
    intro j
    induction j using Nat.strongRecOn with
    | _ j ih =>
      intro a w hI
      obtain ⟨e, a₁, w₁, hq, harr⟩ := round j a w hI b (.inLoop c :: k) cs hro hb hr
      cases e with
      | normal =>
        obtain ⟨i, hlt, hI₁⟩ := hq
        obtain ⟨e₂, a₂, w₂, hq₂, harr₂⟩ := ih i hlt a₁ w₁ hI₁
        exact ⟨e₂, a₂, w₂, hq₂, .of_steps (StepsIn.trans harr (.one (fenced_calm hb hr rfl) stepR_inLoop)) harr₂⟩
      | exit id => exact ⟨_, a₁, w₁, hq, .pass (x := .inLoop c) rfl (fun _ _ => .inl (by simp)) harr⟩
      | goto l => exact ⟨_, a₁, w₁, hq, .pass (x := .inLoop c) rfl (fun _ _ => .inl (by simp)) harr⟩
      | ret => exact ⟨_, a₁, w₁, hq, .pass (x := .inLoop c) rfl (fun _ _ => .inl (by simp)) harr⟩
      | panic ch => exact ⟨_, a₁, w₁, hq, .pass (x := .inLoop c) rfl (fun _ _ => .inl (by simp)) harr⟩
      | outgrown => exact ⟨_, a₁, w₁, hq, .pass (x := .inLoop c) rfl (fun _ _ => .inl (by simp)) harr⟩
  obtain ⟨j, hj⟩ := h₀
  obtain ⟨e, a', w', hq, harr⟩ := key j a w hj
  exact ⟨e, a', w', hq, .of_steps (.one (fenced_calm hb hr rfl) stepR_loop) harr⟩

theorem stepR_scope {b : Frame} {k : List Item} {cs : List Frame} {c : Code} : step P (lone (b.atR a (.code (.scope c) :: k)) cs w) = .next (lone (b.atR a (.code c :: .inScope c :: k)) cs w) :=
  step_lone_go (by simp [stepG, stepG.exec, Frame.atR])
theorem stepR_inScope {b : Frame} {k : List Item} {cs : List Frame} {c : Code} : step P (lone (b.atR a (.inScope c :: k)) cs w) = .next (lone (b.atR a k) cs w) :=
  step_lone_go (by simp [stepG, stepG.exec, Frame.atR])
theorem wpIn_scope {c : Code} (h : c.wpIn F n P Q a w) (hg : ∀ l a w, ¬ Q (.goto l) a w) : (Code.scope c).wpIn F n P Q a w := by
  intro b k cs hro hb hr
  have h0 : (lone (b.atR a (.code (.scope c) :: k)) cs w).fenced P F := fenced_calm hb hr rfl
  obtain ⟨e, a₁, w₁, hq, harr⟩ := h b (.inScope c :: k) cs hro hb hr
  cases e with
  | normal => exact ⟨.normal, a₁, w₁, hq, .head h0 stepR_scope (StepsIn.trans harr (.one (fenced_calm hb hr rfl) stepR_inScope))⟩
  | exit id =>
    have hx : exitTo id (.inScope c :: k) = exitTo id k := by simp [exitTo]
    exact ⟨.exit id, a₁, w₁, hq, fun k' hk => .head h0 stepR_scope (harr.1 k' (by rw [hx]; exact hk)),
      fun hr' hk => let ⟨k₁, h1, h2⟩ := harr.2 hr' (by rw [hx]; exact hk); ⟨k₁, h1, .head h0 stepR_scope h2⟩⟩
  | goto l => exact (hg _ _ _ hq).elim
  | ret => exact ⟨_, a₁, w₁, hq, .of_steps (.one h0 stepR_scope) harr⟩
  | panic ch => exact ⟨_, a₁, w₁, hq, .of_steps (.one h0 stepR_scope) harr⟩
  | outgrown => exact ⟨_, a₁, w₁, hq, .of_steps (.one h0 stepR_scope) harr⟩
end

theorem Rel.kill {N : Lim} {D : Fix} {I : Imm} {e : Env} {st : Store} {a : Act} {w : World} (h : Rel N D I ⟨e, st⟩ a w) (ks : List Nat) : Rel N D I ⟨ekill ks e, st⟩ a w :=
  h.weaken fun t => eget_ekill ks t e

theorem Rel.view {N : Lim} {D : Fix} {I : Imm} {s s' : PS} {a : Act} {w : World} (h : Rel N D I s a w) (hv : View s s') : ∃ I', I.le I' ∧ Rel N D I' s' a w := by
  obtain ⟨I', h1, h2, h3⟩ := hv I a.tmps w h.env h.st
  exact ⟨I', h1, h2, h.size, h.fix.mono h1, h3⟩

theorem code_sound (hmix : P.follows .mixedOrders = true) {F : Fence} {n : Nat} (hF : Wide F) {N : Lim} {D : Fix} {keep : List Nat} : ∀ (c : Code) (m : MCode), convCode P N keep c = some m → ((F.round = none ∧ D.noMarks = false) ∨ noRF c = true) →
    ∀ (Q : MPost) (I : Imm) (s : PS) (a : Act) (w : World), Rel N D I s a w → mwp P m Q s → c.wpIn F n P (lift N D I w Q) a w
  | .skip, m, hc, hro, Q, I, s, a, w, hr, h => by
    simp only [convCode, Option.some.injEq] at hc
    subst hc
    exact wpIn_skip ⟨I, s, I.le_refl, Calm.refl w, hr, h⟩
  | .label l, m, hc, hro, Q, I, s, a, w, hr, h => by
    simp only [convCode, Option.some.injEq] at hc
    subst hc
    exact wpIn_label ⟨I, s, I.le_refl, Calm.refl w, hr, h⟩
  | .ret, m, hc, hro, Q, I, s, a, w, hr, h => by
    simp only [convCode, Option.some.injEq] at hc
    subst hc
    exact wpIn_ret ⟨I, s, I.le_refl, Calm.refl w, hr, h⟩
  | .exit id, m, hc, hro, Q, I, s, a, w, hr, h => by
    simp only [convCode, Option.some.injEq] at hc
    subst hc
    exact wpIn_exit ⟨I, s, I.le_refl, Calm.refl w, hr, h⟩
  | .goto l, m, hc, _, _, _, _, _, _, _, _ => by simp [convCode] at hc
  | .refuse l, m, hc, _, _, _, _, _, _, _, _ => by simp [convCode] at hc
  | .rangeFunc g ps x y, m, hc, hro, Q, I, s, a, w, hr, h => by
    simp only [convCode] at hc
    obtain ⟨hro, hnm⟩ : F.round = none ∧ D.noMarks = false := hro.resolve_right (by simp [noRF])
    split at hc
    · rename_i mf ma mb hcf hcx hcy
      split at hc
      · rename_i hnf
        simp only [Bool.and_eq_true, List.all_eq_true, decide_eq_true_eq] at hnf
        obtain ⟨hnf, hpn⟩ := hnf
        simp only [Option.some.injEq] at hc
        subst hc
        simp only [mwp] at h
        split at h
        · rename_i fid fs cs hfe
          obtain ⟨hent, h⟩ := h
          have hv := hr.x hcf
          rw [hfe] at hv
          simp only [vrep] at hv
          obtain ⟨us, vs, hfv, hus, hvs⟩ := hv
          have hfr := hr.st.fresh_none
          -- the record
          let key : LoopKey := ⟨a.tmps.size, ps, x, y⟩
          have hkey : key.Conv P ps.toList ma mb := ⟨rfl, fun t ht => by show t < a.tmps.size; rw [hr.size]; exact hpn t ht, hnf.1, hnf.2, N, keep, hr.size.symm, hcx, hcy⟩
          let I1 : Imm := I.add w.heap.size (.deferred (some []))
          have hI1 : I.le I1 := hr.st.le_add _
          have hs1 : SRep I1 s.st (w.alloc (.deferred (some []))) := hr.st.allocImm _
          refine wpIn_rangeFunc fun fn hfn => ?_
          let rec0 : Loop := { state := .ready, pending := none, fn, tmps := a.tmps, params := ps, assign := x, body := y, defers := w.heap.size }
          have hor : orep I1 (.loop key s.env .ready none) (.loop rec0) := ⟨fn, a.tmps, w.heap.size, rfl, rfl, fun t => vrep_mono hI1 _ _ (hr.env t)⟩
          have hs2 := hs1.alloc hor
          have hl : (w.alloc (.deferred (some []))).heap.size = w.heap.size + 1 := by rw [World.size_alloc]
          rw [hl] at hs2
          have hnew : snew s.st (w.heap.size + 1) := snew_of (by have := hs1.keys; rw [hl] at this; exact this)
          have hcall := h key hkey (w.heap.size + 1) hnew
          have hcalls : Calls P fid (us ++ [Value.func (.yield (w.heap.size + 1)) #[] #[]] ++ vs).toArray ((w.alloc (.deferred (some []))).alloc (.loop rec0))
              fun e => Held I1 ((w.alloc (.deferred (some []))).alloc (.loop rec0)) (fun I' st' => ∃ pe, erep I' pe e ∧ rangeEnd (w.heap.size + 1) Q s.env pe st') := by
            have hvs' : vreps I1 (fs ++ [.func (.yield (w.heap.size + 1)) [] []] ++ cs) (us ++ [Value.func (.yield (w.heap.size + 1)) #[] #[]] ++ vs) :=
              vreps_append (vreps_append (vreps_mono hI1 _ _ hus) (by simp only [vreps, vrep]; exact ⟨⟨[], [], rfl, trivial, trivial⟩, trivial⟩)) (vreps_mono hI1 _ _ hvs)
            rcases hcall with hcall | hcall
            · exact hcall.out _ _ _ hs2 hvs'
            · obtain ⟨v, w', h3, -⟩ := hcall.out _ _ _ hs2 hvs'
              rw [callFunc_run hent] at h3
              cases h3
          refine ⟨w.heap.size + 1, [{ target := .collected w.heap.size, args := #[] }], ((w.alloc (.deferred (some []))).alloc (.loop rec0)), { target := .fn (.func fid) vs.toArray, args := us.toArray ++ #[.func (.yield (w.heap.size + 1)) #[] #[]] }, ((w.alloc (.deferred (some []))).alloc (.loop rec0)), fid, us.toArray ++ #[.func (.yield (w.heap.size + 1)) #[] #[]] ++ vs.toArray, ((w.alloc (.deferred (some []))).alloc (.loop rec0)),
            by rw [hro]; exact run_enterLoop_outer fn a.tmps ps x y, ?_, fun f' _ => hF.fn f', ?_, fun hx => (by rw [hF.depth] at hx; simp at hx), ?_⟩
          · have e : resolve a.eval (rangeCall g (w.heap.size + 1)) 0 = Deferred.ofValue (a.eval g) #[.func (.yield (w.heap.size + 1)) #[] #[]] := by simp [resolve, rangeCall, Act.eval]
            rw [e, hfv]
            rfl
          · simp only [invoke, callFunc_run hent]
          · have e2 : us.toArray ++ #[Value.func (.yield (w.heap.size + 1)) #[] #[]] ++ vs.toArray = (us ++ [Value.func (.yield (w.heap.size + 1)) #[] #[]] ++ vs).toArray := by simp
            rw [e2]
            refine (hF.calls hcalls).mono fun e w3 hh => ?_
            obtain ⟨I', st', g1, g2, g3, pe, g4, g5⟩ := hh
            have hII : I.le I' := Imm.le_trans hI1 g1
            have hcalm : Calm w w3 := ⟨g2.os, g2.tape, g2.output, by have := g2.size; simp only [World.size_alloc] at this; omega⟩
            have hfix : D.Holds N I' { a with defers := [{ target := .collected w.heap.size, args := #[] }] ++ a.defers } := by
              refine ⟨Imm.le_trans hr.fix.imm hII, hr.fix.defers, fun r hrm => ?_, ?_, fun h => (by rw [hnm] at h; cases h), hr.fix.pins⟩
              · rcases List.mem_cons.1 hrm with rfl | hrm
                · refine ⟨?_, g1 _ _ (by simp [I1, Imm.add])⟩
                  cases hd : D.imm w.heap.size with
                  | none => rfl
                  | some o => have := hr.fix.imm _ _ hd; rw [hfr] at this; cases this
                · exact ⟨(hr.fix.marks r hrm).1, hII _ _ (hr.fix.marks r hrm).2⟩
              · refine List.nodup_cons.2 ⟨fun hm => ?_, hr.fix.nodup⟩
                have := (hr.fix.marks _ hm).2
                rw [hfr] at this
                cases this
            cases pe with
            | panic p =>
              obtain ⟨v, rfl, g6⟩ := g4
              exact ⟨v, rfl, I', st', hII, hcalm, g3, hfix, p, g6, g5⟩
            | ret p =>
              obtain ⟨v, rfl, g6⟩ := g4
              simp only [rangeEnd] at g5
              split at g5
              · rename_i key' e' state pend hget
                obtain ⟨hst, g5⟩ := g5
                obtain ⟨hIl, r, hw3, fn', tmps', D', hr', -, -⟩ := g3.objs _ _ hget
                subst hr'
                have hend := run_endLoop (P := P) hw3 hst
                have hs4 : SRep I' (sdel (w.heap.size + 1) st') (w3.putObj (w.heap.size + 1) (.loop { state := .exhausted, pending := pend, fn := fn', tmps := tmps', params := key'.params, assign := key'.assign, body := key'.body, defers := D' })) := by
                  refine ⟨fun b o hb => ?_, fun b o hb => ?_, ?_⟩
                  · rw [World.putObj_heap_other (by rintro rfl; rw [hIl] at hb; cases hb)]
                    exact g3.imm b o hb
                  · rw [sget_sdel] at hb
                    split at hb
                    · cases hb
                    · rename_i hne
                      rw [World.putObj_heap_other hne]
                      exact g3.objs b o hb
                  · rw [World.putObj_size]; exact sfresh_sdel _ g3.keys
                have hcalm4 : Calm w (w3.putObj (w.heap.size + 1) (.loop { state := .exhausted, pending := pend, fn := fn', tmps := tmps', params := key'.params, assign := key'.assign, body := key'.body, defers := D' })) :=
                  hcalm.trans ⟨rfl, rfl, rfl, by rw [World.putObj_size]; exact Nat.le_refl _⟩
                have hrel : Rel N D I' ⟨s.env, sdel (w.heap.size + 1) st'⟩ { a with defers := [{ target := .collected w.heap.size, args := #[] }] ++ a.defers } _ := ⟨fun t => vrep_mono hII _ _ (hr.env t), hr.size, hfix, hs4⟩
                refine ⟨pend, _, hend, ?_⟩
                split at g5
                · exact ⟨I', _, hII, hcalm4, hrel, g5⟩
                · exact wpIn_ret ⟨I', _, hII, hcalm4, hrel, g5⟩
                · exact wpIn_exit ⟨I', _, hII, hcalm4, hrel, g5⟩
                · exact g5.elim
              · exact g5.elim
        · exact h.elim
      · cases hc
    · cases hc
  | .region id ops false, m, hc, hro, Q, I, s, a, w, hr, h => by
    simp only [convCode, Option.map_eq_some_iff] at hc
    obtain ⟨l, hl, rfl⟩ := hc
    simp only [mwp] at h
    refine wpIn_region ?_
    have := region_sound (n := n) hF (D := D) (Q := lift N D I w Q) (I0 := I) (w0 := w) (K := fun s' => Q .normal ⟨ekill (killOf keep ops) s'.env, s'.st⟩) (QP := panicPost Q)
      (fun a' w' ⟨I', s', h1, h2, h3, h4⟩ => ⟨I', _, h1, h2, h3.kill _, h4⟩) (fun ch a' w' hh => hh)
      ops.toList 0 l (by simp) hl I s a w I.le_refl (Calm.refl w) hr h
    simpa [List.range_eq_range'] using this
  | .region id ops true, m, hc, hro, Q, I, s, a, w, hr, h => by
    simp only [convCode] at hc
    split at hc
    · rename_i l hl
      split at hc
      · rename_i L hL
        split at hc
        · rename_i r hr0
          split at hc
          · rename_i hb
            simp only [Bool.and_eq_true, beq_iff_eq] at hb
            obtain ⟨⟨hok, hsel⟩, hlen⟩ := hb
            simp only [Option.some.injEq] at hc
            subst hc
            obtain ⟨e, st⟩ := s
            -- the class of stores
            obtain ⟨Cl, hCl0, h⟩ : ∃ Cl : Store → Prop, Cl st ∧ mdraw P Cl r ⟨e, st⟩ (fun s' => Q .normal ⟨ekill (killOf keep ops) s'.env, s'.st⟩) (panicPost Q) := by
              cases hlate : (r.any fun x => x.1 == .late) with
              | true =>
                rw [hlate] at h
                simp only [mwp] at h
                obtain ⟨M, hM⟩ := h
                exact ⟨_, fun b _ o ho => ho, hM⟩
              | false =>
                rw [hlate] at h
                simp only [mwp] at h
                exact ⟨_, trivial, h⟩
            have hhd : ∀ x ∈ L, ((L.filter (·.1)).map (·.2)).contains x.2 = x.1 := by
              have key : ∀ (L' : List (Bool × Nat)) (listed : Array Bool), orderOK ops ((L.filter (·.1)).map (·.2)) L' listed = true → (∀ x ∈ L', x ∈ L) → ∀ x ∈ L', ((L.filter (·.1)).map (·.2)).contains x.2 = x.1 := by
                intro L'
                induction L' with
                | nil => intro _ _ _ x hx; cases hx
                | cons y L' ih =>
                  obtain ⟨yh, yi⟩ := y
                  intro listed hB hsub x hx
                  simp only [orderOK, Bool.and_eq_true] at hB
                  rcases List.mem_cons.1 hx with rfl | hx
                  · cases yh with
                    | true =>
                      have := hsub (true, yi) (by simp)
                      simp only [List.contains_iff_mem, List.mem_map, List.mem_filter]
                      exact ⟨_, ⟨this, rfl⟩, rfl⟩
                    | false =>
                      have h1 := hB.1
                      simp only [Bool.false_eq_true, if_false, Bool.and_eq_true, Bool.not_eq_true'] at h1
                      exact h1.1.1
                  · exact ih _ hB.2 (fun z hz => hsub z (by simp [hz])) x hx
              exact key L _ hok (fun x hx => hx)
            have hlex := draw_lex hl L r ⟨e, st⟩ hr0 hhd h
            have hclosed : Closed ops (Array.replicate ops.size false) := by
              intro j oj hj hlj
              exfalso
              rcases Nat.lt_or_ge j ops.size with hlt | hge
              · simp [hlt] at hlj
              · simp [Array.getElem?_eq_none, hge] at hlj
            have hany := pAny_order L (Array.replicate ops.size false) (eget e) st hok (fun x hx hx1 => by rw [hhd x hx, hx1]) hclosed hCl0 hlex
            rw [hlen] at hany
            refine wpIn_region_any hmix ?_
            have hr' : RelF N D I (eget e) st a { w with drawn := w.drawn + 1 } := ⟨hr.env, hr.size, hr.fix, hr.st.drew⟩
            exact wpAnyIn_of_pAny (n := n) hF (N := N) (D := D) (ops := ops) (QP := panicPost Q) (K := fun f st => ∃ e', (∀ t, eget e' t = f t) ∧ Q .normal ⟨ekill (killOf keep ops) e', st⟩) (Q := lift N D I w Q) (I0 := I) (w0 := w)
              (fun i o ho => convInsts_all hl o (by rw [Array.mem_toList_iff]; exact Array.mem_of_getElem? ho))
              (fun a' w' ⟨I', f, st', h1, h2, h3, e', h4, h5⟩ => ⟨I', _, h1, h2, (h3.rel h4).kill _, h5⟩)
              (fun ch a' w' hh => hh) _ _ _ _ I a { w with drawn := w.drawn + 1 } hCl0 I.le_refl ⟨rfl, rfl, rfl, Nat.le_refl _⟩ hr' hany
          · cases hc
        · cases hc
      · cases hc
    · cases hc
  | .seq x y, m, hc, hro, Q, I, s, a, w, hr, h => by
    simp only [convCode] at hc
    have hx0 : (F.round = none ∧ D.noMarks = false) ∨ noRF x = true := hro.imp (fun h => h) fun h => by simp only [noRF, Bool.and_eq_true] at h; exact h.1
    have hy0 : (F.round = none ∧ D.noMarks = false) ∨ noRF y = true := hro.imp (fun h => h) fun h => by simp only [noRF, Bool.and_eq_true] at h; exact h.2
    split at hc
    · rename_i mx my hx hy
      simp only [Option.some.injEq] at hc
      subst hc
      simp only [mwp] at h
      refine wpIn_seq (wpIn_mono (code_sound hmix hF x mx hx hx0 _ I s a w hr h) fun e a' w' hq => ?_)
      cases e with
      | normal =>
        obtain ⟨I', s', h1, h2, h3, h4⟩ := hq
        exact wpIn_mono (code_sound hmix hF y my hy hy0 Q I' s' a' w' h3 h4) fun e a'' w'' hq => lift_from h1 h2 _ _ _ hq
      | exit id => exact hq
      | ret => exact hq
      | panic ch => exact hq
      | goto l => exact hq
      | outgrown => exact hq
    · cases hc
  | .cond c x y, m, hc, hro, Q, I, s, a, w, hr, h => by
    simp only [convCode] at hc
    have hx0 : (F.round = none ∧ D.noMarks = false) ∨ noRF x = true := hro.imp (fun h => h) fun h => by simp only [noRF, Bool.and_eq_true] at h; exact h.1
    have hy0 : (F.round = none ∧ D.noMarks = false) ∨ noRF y = true := hro.imp (fun h => h) fun h => by simp only [noRF, Bool.and_eq_true] at h; exact h.2
    split at hc
    · rename_i mc mx my hcx hx hy
      simp only [Option.some.injEq] at hc
      subst hc
      simp only [mwp] at h
      split at h
      · rename_i t ht
        have hv := hr.x hcx
        rw [ht] at hv
        simp only [vrep] at hv
        exact wpIn_cond_split hv (fun e => code_sound hmix hF x mx hx hx0 Q I s a w hr (h.1 e)) (fun e => code_sound hmix hF y my hy hy0 Q I s a w hr (h.2 e))
      · exact h.elim
    · cases hc
  | .block id c, m, hc, hro, Q, I, s, a, w, hr, h => by
    have hro : (F.round = none ∧ D.noMarks = false) ∨ noRF c = true := hro.imp (fun h => h) fun h => h
    simp only [convCode, Option.map_eq_some_iff] at hc
    obtain ⟨mc, hmc, rfl⟩ := hc
    simp only [mwp] at h
    refine wpIn_block (wpIn_mono (code_sound hmix hF c mc hmc hro _ I s a w hr h) fun e a' w' hq => ?_)
    cases e with
    | normal => exact hq
    | exit j =>
      simp only [Exit.inBlock]
      obtain ⟨I', s', h1, h2, h3, h4⟩ := hq
      simp only [minBlock] at h4
      by_cases hj : j = id
      · simp only [hj, if_true] at h4 ⊢
        exact ⟨I', s', h1, h2, h3, h4⟩
      · simp only [hj, if_false] at h4 ⊢
        exact ⟨I', s', h1, h2, h3, h4⟩
    | ret => exact hq
    | panic ch => exact hq
    | goto l => exact hq
    | outgrown => exact hq
  | .loop c, m, hc, hro, Q, I, s, a, w, hr, h => by
    have hro : (F.round = none ∧ D.noMarks = false) ∨ noRF c = true := hro.imp (fun h => h) fun h => h
    simp only [convCode, Option.map_eq_some_iff] at hc
    obtain ⟨mc, hmc, rfl⟩ := hc
    simp only [mwp] at h
    obtain ⟨J, ⟨j0, s0, hv0, hj0⟩, hround⟩ := h
    obtain ⟨I1, hI1, hr1⟩ := hr.view hv0
    refine wpIn_loop_ghost (fun j a' w' => HRel N D I w (J j) a' w') ⟨j0, I1, s0, hI1, Calm.refl w, hr1, hj0⟩ fun j a' w' ⟨I', s', h1, h2, h3, h4⟩ => ?_
    refine wpIn_mono (code_sound hmix hF c mc hmc hro _ I' s' a' w' h3 (hround j s' h4)) fun e a'' w'' hq => ?_
    cases e with
    | normal =>
      obtain ⟨I'', s1, g1, g2, g3, i, g4, s'', g5, g6⟩ := hq
      obtain ⟨I3, hI3, hr3⟩ := g3.view g5
      exact ⟨i, g4, I3, s'', Imm.le_trans (Imm.le_trans h1 g1) hI3, h2.trans g2, hr3, g6⟩
    | exit id => exact HRel.from h1 h2 hq
    | ret => exact HRel.from h1 h2 hq
    | panic ch => exact HPanA.from h1 h2 hq
    | goto l => exact hq
    | outgrown => exact hq
  | .scope c, m, hc, hro, Q, I, s, a, w, hr, h => by
    have hro : (F.round = none ∧ D.noMarks = false) ∨ noRF c = true := hro.imp (fun h => h) fun h => h
    simp only [convCode] at hc
    exact wpIn_scope (code_sound hmix hF c m hc hro Q I s a w hr h) (fun l a' w' hq => hq)

end Go.Pv
