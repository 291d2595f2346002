/- The compact code is met by the model's own: all of it, and functions. -/
import Derived.Test.YtbjfmedpaohpnaaLSq
set_option linter.unusedSimpArgs false
namespace Go.Pv
variable {P : Program}

theorem relF_of {N : Lim} {D : Fix} {I : Imm} {e : Env} {st : Store} {a : Act} {w : World} (h : Rel N D I ⟨e, st⟩ a w) : RelF N D I (eget e) st a w := ⟨h.env, h.size, h.fix, h.st⟩
theorem RelF.rel {N : Lim} {D : Fix} {I : Imm} {f : FEnv} {e : Env} {st : Store} {a : Act} {w : World} (h : RelF N D I f st a w) (he : ∀ t, eget e t = f t) : Rel N D I ⟨e, st⟩ a w :=
  ⟨fun t => by rw [he]; exact h.env t, h.size, h.fix, h.st⟩

theorem eget_eput (e : Env) (d : Option Nat) (p : PV) : eget (eput e d p) = fput (eget e) d p := by
  cases d with
  | none => rfl
  | some t =>
    funext u
    simp only [fput]
    by_cases h : t = u
    · subst h; simp [eget_eput_same]
    · simp [h, eget_eput_ne _ _ _ _ h]
theorem meval_eq (e : Env) (m : MX) : meval e m = mevalF (eget e) m := by cases m <;> rfl

theorem convInsts_cons {N : Lim} {ops : Array Oper} {o : Oper} {l : List Oper} {ms : List MInst} (h : convInsts P N ops (o :: l) = some ms) :
    ∃ g m ms', ms = ⟨o.dst, g, m⟩ :: ms' ∧ convGuard ops o.guard = some g ∧ convOp P o.op = some m ∧ convInsts P N ops l = some ms' ∧ (∀ t, o.dst = some t → N.ok t) ∧ ∀ c, o.op ≠ .defer c := by
  simp only [convInsts] at h
  split at h
  · rename_i g m ms' hg hm hms
    split at h
    · rename_i hc
      simp only [Option.some.injEq] at h
      simp only [Bool.and_eq_true] at hc
      refine ⟨g, m, ms', h.symm, hg, hm, hms, fun t ht => ?_, fun c hcc => ?_⟩
      · have := hc.1
        rw [ht] at this
        simpa using this
      · have := hc.2
        rw [hcc] at this
        cases this
    · cases h
  · cases h

theorem convInsts_all {N : Lim} {ops : Array Oper} : ∀ {l : List Oper} {ms : List MInst}, convInsts P N ops l = some ms → ∀ o ∈ l, (∀ c, o.op ≠ .defer c) ∧ ∀ t, o.dst = some t → N.ok t
  | [], _, _, o, ho => by cases ho
  | o :: l, ms, h, o', ho' => by
    obtain ⟨g, m, ms', rfl, _, _, h3, h4, h5⟩ := convInsts_cons h
    rcases List.mem_cons.1 ho' with rfl | h'
    · exact ⟨h5, h4⟩
    · exact convInsts_all h3 o' h'

/-- A region in the text's order. -/
theorem region_sound {F : Fence} {n : Nat} (hF : Wide F) {N : Lim} {D : Fix} {ops : Array Oper} {K : PS → Prop} {QP : PV → Store → Prop} {Q : Exit → Act → World → Prop} {I0 : Imm} {w0 : World}
    (hQ : ∀ a w, HRel N D I0 w0 K a w → Q .normal a w) (hpan : ∀ ch a w, HPanA N D I0 w0 QP ch a w → Q (.panic ch) a w) :
    ∀ (l : List Oper) (k : Nat) (ms : List MInst), (∀ j : Nat, l[j]? = ops[k + j]?) → convInsts P N ops l = some ms →
      ∀ I (s : PS) a w, I0.le I → Calm w0 w → Rel N D I s a w → mops P ms s K QP → wpOpsIn F n P ops Q (List.range' k l.length) a w
  | [], k, ms, _, hc, I, s, a, w, hI, hw, hr, h => by
    simp only [convInsts, Option.some.injEq] at hc
    subst hc
    simp only [mops] at h
    simp only [List.length_nil, List.range'_zero, wpOpsIn]
    exact hQ _ _ ⟨I, s, hI, hw, hr, h⟩
  | o :: l, k, ms, hl, hc, I, s, a, w, hI, hw, hr, h => by
    obtain ⟨e, st⟩ := s
    obtain ⟨g, m, ms', rfl, hg, hm, hms, hd, hdf⟩ := convInsts_cons hc
    have h0 : ops[k]? = some o := by simpa using (hl 0).symm
    have hl' : ∀ j : Nat, l[j]? = ops[k + 1 + j]? := fun j => by
      have := hl (j + 1)
      simpa [Nat.add_assoc, Nat.add_comm 1 j] using this
    simp only [List.length_cons, List.range'_succ, wpOpsIn, h0]
    have step : ∀ (I : Imm) (e : Env) (a : Act) (w : World), I0.le I → Calm w0 w → Rel N D I ⟨e, st⟩ a w → mop P m (meval e) st (fun p st' => mops P ms' ⟨eput e o.dst p, st'⟩ K QP) QP →
        o.wpIn F n P a w (wpOpsIn F n P ops Q (List.range' (k + 1) l.length)) Q := fun I e a w hI hw hr hk =>
      oper_sound hF hm hdf hd hr (K := fun s' => mops P ms' s' K QP) hk
        (fun a' w' ⟨I', s', h1, h2, h3, h4⟩ => region_sound hF hQ hpan l (k + 1) ms' hl' hms I' s' a' w' (Imm.le_trans hI h1) (hw.trans h2) h3 h4)
        (fun ch w' hh => hpan ch a w' (hh.act hI hw hr.fix))
    simp only [mops] at h
    cases g with
    | none =>
      simp only at h
      rw [if_pos (wanted_of (relF_of hr) hg (b := true) rfl)]
      exact step I e a w hI hw hr h
    | some tw =>
      obtain ⟨t, want⟩ := tw
      simp only at h
      split at h
      · rename_i c hcc
        have hw' : Region.wanted o (yielded ops a.tmps) = (c == want) := wanted_of (relF_of hr) hg (by simp only [pwanted, hcc])
        by_cases hcw : c = want
        · subst hcw
          rw [if_pos (by rw [hw']; simp)]
          exact step I _ a w hI hw (hr.guard hcc) (h.1 rfl)
        · have hcn : c = !want := by cases c <;> cases want <;> simp_all
          rw [if_neg (by rw [hw']; simpa using hcw)]
          refine ⟨fun _ _ => hF.fn _, ?_⟩
          have hr' := (hr.guard hcc)
          rw [hcn] at hr'
          exact region_sound hF hQ hpan l (k + 1) ms' hl' hms I _ _ w hI hw (hr'.put I.le_refl hr.st hd (fun _ => by simp only [vrep]; rfl)) (h.2 hcn)
      · rename_i vs hcc
        have hw' : Region.wanted o (yielded ops a.tmps) = false := wanted_of (relF_of hr) hg (by simp only [pwanted, hcc])
        rw [if_neg (by rw [hw']; simp)]
        exact ⟨fun _ _ => hF.fn _, region_sound hF hQ hpan l (k + 1) ms' hl' hms I _ _ w hI hw (hr.put I.le_refl hr.st hd (fun _ => by simp only [vrep]; rfl)) h⟩
      · exact h.elim

theorem convInsts_get {N : Lim} {ops : Array Oper} : ∀ {l : List Oper} {ms : List MInst}, convInsts P N ops l = some ms → ∀ (i : Nat) (o : Oper), l[i]? = some o → ∃ g m, ms[i]? = some ⟨o.dst, g, m⟩ ∧ convGuard ops o.guard = some g ∧ convOp P o.op = some m
  | [], _, _, i, o, ho => by simp at ho
  | o :: l, ms, h, i, o', ho' => by
    obtain ⟨g, m, ms', rfl, h1, h2, h3, _, _⟩ := convInsts_cons h
    cases i with
    | zero => simp at ho'; subst ho'; exact ⟨g, m, by simp, h1, h2⟩
    | succ i => simpa using convInsts_get h3 i o' (by simpa using ho')

theorem mval_nostore {v : MVal} (h : usesStore v = false) {ρ : MX → PV} {st st' : Store} {K : PV → Prop} (hk : mval v ρ st K) : mval v ρ st' K := by
  cases v <;> first | exact hk | (simp [usesStore] at h)

theorem soft1_sound {e : Env} {st : Store} {QP : PV → Store → Prop} {o : Oper} {m : MOp} (hm : convOp P o.op = some m) {K' : PV → Prop} (hk : soft1 P m e st K' QP) : ∃ p, Soft1 P st QP o (eget e) p ∧ K' p := by
  cases m with
  | val v =>
    simp only [soft1] at hk
    have hcv : convVal P o.op = some v := convOp_val hm
    obtain ⟨p, hK, hgv⟩ := val_sound hcv hk
    refine ⟨p, fun I w ev hs hx => ?_, hK⟩
    have hx' : XRep I (meval e) ev o.op.operands.toList := fun x hx1 m hm1 => by rw [meval_eq]; exact hx x hx1 m hm1
    obtain ⟨u, w', I', h1, h2, h3, h4, h5⟩ := hgv I w ev o rfl hs hx'
    rw [h1]
    exact ⟨I', st, h2, h3, h4, rfl, h5⟩
  | call f args =>
    simp only [soft1] at hk
    obtain ⟨p, hcall, hK⟩ := hk
    refine ⟨p, fun I w ev hs hx => ?_, hK⟩
    have hx' : XRep I (meval e) ev o.op.operands.toList := fun x hx1 m hm1 => by rw [meval_eq]; exact hx x hx1 m hm1
    obtain ⟨f0, args0, ats, ho, hf0, ha0⟩ := convOp_call hm
    rw [run_callOp ho]
    have hv := hx' f0 (by rw [ho]; simp [Op.operands, Call.operands]) f hf0
    have hvs := xreps (ρ := meval e) (fun y hy => hx' y (by rw [ho]; simp only [Op.operands, Call.operands, Array.toList_append, List.mem_append]; exact .inr hy)) ha0
    unfold PCallF at hcall
    split at hcall
    · rename_i g' fs cs hfe
      rw [hfe] at hv
      simp only [vrep] at hv
      obtain ⟨us, ws, hfv, h1, h2⟩ := hv
      rw [hfv]
      have hvs' := vreps_append (vreps_append h1 hvs) h2
      rcases hcall with hcall | hcall
      · simp only [Deferred.ofValue, Sem.run_bind, Sem.run_pure, Result.andThen_ok, invoke, callFunc_run hcall.enters, SoftR]
        exact ⟨_, I, I.le_refl, Calm.refl w, hs, us ++ args0.toList.map ev ++ ws, by simp, hvs', hcall⟩
      · obtain ⟨v, w', g1, I', st', g2, g3, g4, p', g5, rfl, g6⟩ := hcall.out I w _ hs hvs'
        have e : (us.toArray ++ (args0.toList.map ev).toArray ++ ws.toArray) = (us ++ args0.toList.map ev ++ ws).toArray := by simp
        simp only [Deferred.ofValue, Sem.run_bind, Sem.run_pure, Result.andThen_ok, invoke, e, g1, SoftR]
        refine ⟨I', _, g2, g3, g4, rfl, ?_⟩
        rcases g6 with g6 | ⟨q, g6, -⟩
        · cases g6; exact g5
        · cases g6
    · exact hcall.elim
  | _ => simp [soft1] at hk

theorem late1_sound {Cl : Store → Prop} {e : Env} {QP : PV → Store → Prop} {o : Oper} {m : MOp} (hm : convOp P o.op = some m) {K' : PV → Prop} (hk : late1 P Cl m e K' QP) :
    ∃ p, (∀ st, Cl st → Soft1 P st QP o (eget e) p) ∧ K' p := by
  cases m with
  | val v =>
    simp only [late1] at hk
    obtain ⟨p, h1, h2⟩ := hk
    refine ⟨p, fun st hst => ?_, h2⟩
    have h1' : mval v (meval e) st (fun q => q = p) := by
      split at h1
      · exact h1 st hst
      · rename_i hu
        exact mval_nostore (by simpa using hu) h1
    obtain ⟨q, h3, h4⟩ := soft1_sound (QP := QP) (K' := fun q => q = p) hm (by simp only [soft1]; exact h1')
    rw [h4] at h3
    exact h3
  | call f args =>
    simp only [late1] at hk
    obtain ⟨p, hcall, hK⟩ := hk
    refine ⟨p, fun st hst => ?_, hK⟩
    obtain ⟨q, h3, h4⟩ := soft1_sound (QP := QP) (K' := fun q => q = p) hm (by simp only [soft1]; exact ⟨p, hcall st hst, rfl⟩)
    rw [h4] at h3
    exact h3
  | _ => simp [late1] at hk

/-- From the walk over environments as lists to the walk over environments as functions. -/
theorem draw_lex {N : Lim} {ops : Array Oper} {hards : List Nat} {Cl : Store → Prop} {ms : List MInst} (hms : convInsts P N ops ops.toList = some ms) {QP : PV → Store → Prop} {K : PS → Prop} :
    ∀ (L : List (Bool × Nat)) (r : List (DFlag × MInst)) (s : PS), pickInsts ms ops hards L = some r → (∀ x ∈ L, hards.contains x.2 = x.1) →
      mdraw P Cl r s K QP → pLex P ops hards Cl QP (fun f st => ∃ e', (∀ t, eget e' t = f t) ∧ K ⟨e', st⟩) L (eget s.env) s.st
  | [], r, s, hr, _, h => by
    simp only [pickInsts, Option.some.injEq] at hr
    subst hr
    simp only [mdraw] at h
    exact ⟨s.env, fun _ => rfl, h⟩
  | x :: L, r, s, hr, hL, h => by
    simp only [pickInsts] at hr
    split at hr
    · rename_i mi r' hmi hr'
      simp only [Option.some.injEq] at hr
      subst hr
      have ih := fun (s' : PS) (h' : mdraw P Cl r' s' K QP) => draw_lex hms L r' s' hr' (fun y hy => hL y (by simp [hy])) h'
      have hx := hL x (by simp)
      intro o ho
      obtain ⟨g, m, hg1, hg, hm⟩ := convInsts_get hms x.2 o (by simpa using ho)
      obtain rfl : mi = ⟨o.dst, g, m⟩ := Option.some.inj (hmi.symm.trans hg1)
      refine ⟨g, hg, ?_⟩
      -- the operation carried out
      have go : ∀ (e : Env) (st : Store), (∀ t, eget e t = eget s.env t) → pwanted (eget s.env) g = some true → mdraw.one P Cl (flagOf ops hards x) ⟨o.dst, g, m⟩ ⟨e, st⟩ (fun p st' => mdraw P Cl r' ⟨eput e o.dst p, st'⟩ K QP) QP → st = s.st →
          if hards.contains x.2 = true then
            (pwanted (eget s.env) g = some true ∧ Hard1 P s.st QP o (eget s.env) (fun p st' => Cl st' ∧ pLex P ops hards Cl QP (fun f st => ∃ e', (∀ t, eget e' t = f t) ∧ K ⟨e', st⟩) L (fput (eget s.env) o.dst p) st')) ∨
              (pwanted (eget s.env) g = some false ∧ pLex P ops hards Cl QP (fun f st => ∃ e', (∀ t, eget e' t = f t) ∧ K ⟨e', st⟩) L (fput (eget s.env) o.dst .undef) s.st)
          else ∃ p, SYields P Cl QP (lateOf ops hards x.2) o g (eget s.env) s.st p ∧ pLex P ops hards Cl QP (fun f st => ∃ e', (∀ t, eget e' t = f t) ∧ K ⟨e', st⟩) L (fput (eget s.env) o.dst p) s.st := by
        intro e st he hw hone hst
        subst hst
        have hfe : eget e = eget s.env := funext he
        unfold flagOf at hone
        cases hx1 : x.1 with
        | true =>
          rw [hx1] at hx
          rw [if_pos hx]
          rw [hx1] at hone
          simp only [if_true, mdraw.one] at hone
          refine .inl ⟨hw, fun I w ev hs hxr => ?_⟩
          have hx' : XRep I (meval e) ev o.op.operands.toList := fun y hy1 m hm1 => by rw [meval_eq, hfe]; exact hxr y hy1 m hm1
          refine (op_sound (fun _ => rfl) hm hone hs hx').mono fun p st' hk => ⟨hk.1, ?_⟩
          have := ih ⟨eput e o.dst p, st'⟩ hk.2
          rw [eget_eput, hfe] at this
          exact this
        | false =>
          rw [hx1] at hx
          rw [if_neg (by rw [hx]; simp)]
          rw [hx1] at hone
          simp only [Bool.false_eq_true, if_false] at hone
          split at hone
          · rename_i hall
            simp only [mdraw.one] at hone
            obtain ⟨p, h1, h2⟩ := soft1_sound hm hone
            refine ⟨p, .inl ⟨hw, ?_⟩, ?_⟩
            · rw [if_neg (by unfold lateOf; rw [hall]; simp)]
              rw [← hfe]; exact h1
            · have := ih _ h2
              rw [eget_eput, hfe] at this
              exact this
          · rename_i hall
            simp only [mdraw.one] at hone
            obtain ⟨p, h1, h2⟩ := late1_sound hm hone
            refine ⟨p, .inl ⟨hw, ?_⟩, ?_⟩
            · rw [if_pos (by unfold lateOf; simpa using hall)]
              rw [← hfe]; exact h1
            · have := ih _ h2
              rw [eget_eput, hfe] at this
              exact this
      have skip : pwanted (eget s.env) g = some false → pLex P ops hards Cl QP (fun f st => ∃ e', (∀ t, eget e' t = f t) ∧ K ⟨e', st⟩) L (fput (eget s.env) o.dst .undef) s.st →
          if hards.contains x.2 = true then
            (pwanted (eget s.env) g = some true ∧ Hard1 P s.st QP o (eget s.env) (fun p st' => Cl st' ∧ pLex P ops hards Cl QP (fun f st => ∃ e', (∀ t, eget e' t = f t) ∧ K ⟨e', st⟩) L (fput (eget s.env) o.dst p) st')) ∨
              (pwanted (eget s.env) g = some false ∧ pLex P ops hards Cl QP (fun f st => ∃ e', (∀ t, eget e' t = f t) ∧ K ⟨e', st⟩) L (fput (eget s.env) o.dst .undef) s.st)
          else ∃ p, SYields P Cl QP (lateOf ops hards x.2) o g (eget s.env) s.st p ∧ pLex P ops hards Cl QP (fun f st => ∃ e', (∀ t, eget e' t = f t) ∧ K ⟨e', st⟩) L (fput (eget s.env) o.dst p) s.st := by
        intro hw hk
        split
        · exact .inr ⟨hw, hk⟩
        · exact ⟨.undef, .inr ⟨hw, rfl⟩, hk⟩
      have hput : ∀ (t : Nat) (c : Bool), eget s.env t = .bool c → ∀ u, eget (putB s.env t c) u = eget s.env u := by
        intro t c htc u
        unfold putB
        by_cases htu : t = u
        · subst htu; rw [eget_eput_same, htc]
        · rw [eget_eput_ne _ _ _ _ htu]
      simp only [mdraw] at h
      cases g with
      | none =>
        simp only at h
        exact go s.env s.st (fun _ => rfl) rfl h rfl
      | some tw =>
        obtain ⟨t, want⟩ := tw
        simp only at h
        split at h
        · rename_i c hcc
          by_cases hcw : c = want
          · subst hcw
            exact go _ s.st (hput t c hcc) (by simp only [pwanted, hcc]; cases c <;> rfl) (h.1 rfl) rfl
          · have hcn : c = !want := by
              clear go skip hput ih h
              revert hcw
              cases c <;> cases want <;> decide
            refine skip (by simp only [pwanted, hcc, hcn]; cases want <;> rfl) ?_
            have := ih _ (h.2 hcn)
            rw [eget_eput, funext (hput t (!want) (by rw [← hcn]; exact hcc))] at this
            exact this
        · rename_i vs hcc
          refine skip (by simp only [pwanted, hcc]) ?_
          have := ih _ h
          rw [eget_eput] at this
          exact this
        · exact h.elim
    · cases hr

end Go.Pv
