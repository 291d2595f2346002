/- Regions that draw their order: one walk in the text's order serves every order, where each operation gives one pure value and leaves the store alone. -/
import Derived.Test.YtliglilanpfjhaaLSd
set_option linter.unusedSimpArgs false
namespace Go.Pv
variable {P : Program}

abbrev FEnv := Nat → PV
def fput (f : FEnv) (d : Option Nat) (p : PV) : FEnv :=
  match d with
  | none => f
  | some t => fun u => if t = u then p else f u
def mevalF (f : FEnv) : MX → PV
  | .tmp t => f t
  | .const p => p

theorem fput_comm (f : FEnv) {x y : Option Nat} (p q : PV) (h : ∀ d, x = some d → y ≠ some d) : fput (fput f x p) y q = fput (fput f y q) x p := by
  cases x <;> cases y <;> try rfl
  rename_i s t
  have hne : s ≠ t := fun e => h s rfl (by rw [e])
  funext u
  simp only [fput]
  by_cases h1 : t = u
  · subst h1; simp [hne]
  · simp [h1]

/-- What is asked of an operation's outcome: the value p, the store as it was. -/
def SoftR (P : Program) (I : Imm) (w : World) (st : Store) (QP : PV → Store → Prop) (p : PV) : Result Next → Prop
  | .ok (.value v) w' => Held I w (fun I' st' => st' = st ∧ vrep I' p v) w'
  | .ok (.enter g args) w' => ∃ ps I1, I.le I1 ∧ Calm w w' ∧ SRep I1 st w' ∧ ∃ vs : List Value, args = vs.toArray ∧ vreps I1 ps vs ∧
      PEnter P g ps st (fun en st' => st' = st ∧ (en = .ret p ∨ ∃ q, en = .panic q ∧ QP q st))
  | _ => False

def Soft1 (P : Program) (st : Store) (QP : PV → Store → Prop) (o : Oper) (f : FEnv) (p : PV) : Prop :=
  ∀ I w ev, SRep I st w → XRep I (mevalF f) ev o.op.operands.toList → SoftR P I w st QP p ((execOp ev o).run P w)

def pwanted (f : FEnv) : Option (Nat × Bool) → Option Bool
  | none => some true
  | some (t, want) =>
    match f t with
    | .val (.bool c) => some (c == want)
    | .val (.tuple _) => some false
    | _ => none

def Hard1 (P : Program) (st : Store) (QP : PV → Store → Prop) (o : Oper) (f : FEnv) (K : PV → Store → Prop) : Prop :=
  ∀ I w ev, SRep I st w → XRep I (mevalF f) ev o.op.operands.toList → UponR P I w K QP ((execOp ev o).run P w)

theorem UponR.mono {I : Imm} {w : World} {K K' QP : PV → Store → Prop} {r : Result Next} (h : UponR P I w K QP r) (hk : ∀ p s, K p s → K' p s) : UponR P I w K' QP r := by
  cases r with
  | ok x w' =>
    cases x <;> simp only [UponR] at h ⊢
    case value v => obtain ⟨I', st', h1, h2, h3, p, h4, h5⟩ := h; exact ⟨I', st', h1, h2, h3, p, h4, hk _ _ h5⟩
    case skip => obtain ⟨I', st', h1, h2, h3, h5⟩ := h; exact ⟨I', st', h1, h2, h3, hk _ _ h5⟩
    case enter g args =>
      obtain ⟨ps, st1, I1, h1, h2, h3, vs, h4, h5, h6⟩ := h
      exact ⟨ps, st1, I1, h1, h2, h3, vs, h4, h5, h6.mono fun e s he => by cases e <;> first | exact hk _ _ he | exact he⟩
    case round l f tmps assign body =>
      exact h.mono fun e w2 ⟨I', st', h1, h2, h3, pe, h4, h5⟩ => ⟨I', st', h1, h2, h3, pe, h4, by cases pe <;> first | exact hk _ _ h5 | exact h5⟩
  | halt x w' => cases x <;> simp only [UponR] at h ⊢; exact h

/-- A soft operation's value: in the store at hand, or (late) in every store of the class. -/
def SYields (P : Program) (Cl : Store → Prop) (QP : PV → Store → Prop) (late sb : Bool) (o : Oper) (g : Option (Nat × Bool)) (f : FEnv) (st : Store) (p : PV) : Prop :=
  (pwanted f g = some true ∧ if late = true then ∀ st', (sb = true → Cl st') → Soft1 P st' QP o f p else Soft1 P st QP o f p) ∨ (pwanted f g = some false ∧ p = .undef)

section
variable {ops : Array Oper} {hards : List Nat} {su fin : Nat → Bool} {Cl : Store → Prop} {QP : PV → Store → Prop} {K : FEnv → Store → Prop}

theorem mevalF_fput {f : FEnv} {d : Option Nat} {p : PV} {x : Operand} {m : MX} (hm : convX x = some m) (h : ∀ t, d = some t → x ≠ .tmp t) : mevalF (fput f d p) m = mevalF f m := by
  cases x with
  | tmp t =>
    simp only [convX, Option.some.injEq] at hm
    subst hm
    cases d with
    | none => rfl
    | some s =>
      simp only [mevalF, fput]
      rw [if_neg]
      intro e
      exact h s rfl (by rw [e])
  | const v =>
    simp only [convX] at hm
    split at hm
    · simp only [Option.some.injEq] at hm; subst hm; rfl
    · cases hm
  | global g => simp only [convX, Option.some.injEq] at hm; subst hm; rfl
  | func g => simp only [convX, Option.some.injEq] at hm; subst hm; rfl

theorem mem_looks_of_operand {o : Oper} {t : Nat} (h : Operand.tmp t ∈ o.op.operands.toList) : t ∈ o.looksAt ops := by
  unfold Oper.looksAt
  exact List.mem_append_left _ (List.mem_filterMap.2 ⟨.tmp t, h, rfl⟩)

theorem pwanted_fput {o : Oper} {g : Option (Nat × Bool)} (hg : convGuard ops o.guard = some g) {f : FEnv} {d : Option Nat} {q : PV} (h : ∀ t, d = some t → t ∉ o.looksAt ops) :
    pwanted (fput f d q) g = pwanted f g := by
  cases hgd : o.guard with
  | none => rw [hgd] at hg; simp only [convGuard, Option.some.injEq] at hg; subst hg; rfl
  | some jw =>
    obtain ⟨j, want⟩ := jw
    rw [hgd] at hg
    simp only [convGuard] at hg
    split at hg
    · rename_i t ht
      simp only [Option.some.injEq] at hg
      subst hg
      have hmem : t ∈ o.looksAt ops := by
        unfold Oper.looksAt
        refine List.mem_append_right _ ?_
        rw [hgd]
        simp only [ht, Option.toList_some, List.mem_singleton]
      cases d with
      | none => rfl
      | some s =>
        have : s ≠ t := fun e => h s rfl (by rw [e]; exact hmem)
        simp only [pwanted, fput, if_neg this]
    · cases hg

theorem xrep_fput {o : Oper} {f : FEnv} {d : Option Nat} {q : PV} (h : ∀ t, d = some t → t ∉ o.looksAt ops) (I : Imm) (ev : Operand → Value) :
    XRep I (mevalF (fput f d q)) ev o.op.operands.toList ↔ XRep I (mevalF f) ev o.op.operands.toList := by
  unfold XRep
  constructor
  · intro hh x hx m hm
    rw [← mevalF_fput (d := d) (p := q) hm (fun t ht e => h t ht (mem_looks_of_operand (by rw [← e]; exact hx)))]
    exact hh x hx m hm
  · intro hh x hx m hm
    rw [mevalF_fput hm (fun t ht e => h t ht (mem_looks_of_operand (by rw [← e]; exact hx)))]
    exact hh x hx m hm

theorem soft1_fput {o : Oper} {f : FEnv} {d : Option Nat} {q p : PV} {st : Store} (h : ∀ t, d = some t → t ∉ o.looksAt ops) : Soft1 P st QP o (fput f d q) p ↔ Soft1 P st QP o f p := by
  unfold Soft1
  simp only [xrep_fput h]
theorem hard1_fput {o : Oper} {f : FEnv} {d : Option Nat} {q : PV} {st : Store} {K : PV → Store → Prop} (h : ∀ t, d = some t → t ∉ o.looksAt ops) : Hard1 P st QP o (fput f d q) K ↔ Hard1 P st QP o f K := by
  unfold Hard1
  simp only [xrep_fput h]

theorem SYields.fput_iff {late sb : Bool} {o : Oper} {g : Option (Nat × Bool)} (hg : convGuard ops o.guard = some g) {f : FEnv} {d : Option Nat} {q p : PV} {st : Store} (h : ∀ t, d = some t → t ∉ o.looksAt ops) :
    SYields P Cl QP late sb o g (fput f d q) st p ↔ SYields P Cl QP late sb o g f st p := by
  unfold SYields
  simp only [pwanted_fput hg h, soft1_fput h]

def lateOf (ops : Array Oper) (hards : List Nat) (i : Nat) : Bool := !(hards.all fun h => ancB ops ops.size i h)

/-- Operation number i comes up. -/
def pOp (P : Program) (ops : Array Oper) (hards : List Nat) (su fin : Nat → Bool) (Cl : Store → Prop) (QP : PV → Store → Prop) (i : Nat) (K : FEnv → Store → Prop) (f : FEnv) (st : Store) : Prop :=
  ∀ o, ops[i]? = some o → ∃ g, convGuard ops o.guard = some g ∧
    if hards.contains i = true then
      (pwanted f g = some true ∧ Hard1 P st QP o f (fun p st' => (fin i = false → Cl st') ∧ K (fput f o.dst p) st')) ∨ (pwanted f g = some false ∧ K (fput f o.dst .undef) st)
    else ∃ p, SYields P Cl QP (lateOf ops hards i) (su i) o g f st p ∧ K (fput f o.dst p) st

theorem pOp_mono {i : Nat} {K K' : FEnv → Store → Prop} {f : FEnv} {st : Store} (h : ∀ f st, K f st → K' f st) (hh : pOp P ops hards su fin Cl QP i K f st) : pOp P ops hards su fin Cl QP i K' f st := by
  intro o ho
  obtain ⟨g, hg, hh⟩ := hh o ho
  refine ⟨g, hg, ?_⟩
  split
  · rename_i hc
    rw [if_pos hc] at hh
    rcases hh with ⟨h1, h2⟩ | ⟨h1, h2⟩
    · exact .inl ⟨h1, fun I w ev hs hx => (h2 I w ev hs hx).mono fun p s hk => ⟨hk.1, h _ _ hk.2⟩⟩
    · exact .inr ⟨h1, h _ _ h2⟩
  · rename_i hc
    rw [if_neg hc] at hh
    obtain ⟨p, h1, h2⟩ := hh
    exact ⟨p, h1, h _ _ h2⟩

def pAny (P : Program) (ops : Array Oper) (hards : List Nat) (su fin : Nat → Bool) (Cl : Store → Prop) (QP : PV → Store → Prop) (K : FEnv → Store → Prop) : Nat → Array Bool → FEnv → Store → Prop
  | 0, listed, f, st => Region.ready .any ops listed = [] ∧ K f st
  | fuel + 1, listed, f, st =>
    (Region.ready .any ops listed = [] → K f st) ∧ ∀ i ∈ Region.ready .any ops listed, pOp P ops hards su fin Cl QP i (pAny P ops hards su fin Cl QP K fuel (listed.setIfInBounds i true)) f st

/-- What is listed has all listed that it waits for. -/
def Closed (ops : Array Oper) (listed : Array Bool) : Prop :=
  ∀ j oj, ops[j]? = some oj → listed.getD j false = true → ∀ e ∈ oj.after, Region.binds .any e = true → listed.getD e.on false = true

theorem getD_set_true' {listed : Array Bool} {i j : Nat} (h : listed.getD j false = true) : (listed.setIfInBounds i true).getD j false = true := by
  by_cases hij : i = j
  · subst hij
    have hlt : i < listed.size := by
      rcases Nat.lt_or_ge i listed.size with hlt | hge
      · exact hlt
      · simp [Array.getElem?_eq_none hge] at h
    simp [hlt]
  · rw [getD_set_ne false hij]; exact h

theorem Closed.set {listed : Array Bool} (h : Closed ops listed) {i : Nat} (hi : i ∈ Region.ready .any ops listed) : Closed ops (listed.setIfInBounds i true) := by
  intro j oj hj hl e he hb
  by_cases hij : i = j
  · subst hij
    obtain ⟨_, oi, hoi, hall⟩ := mem_ready.1 hi
    obtain rfl : oj = oi := Option.some.inj (hj.symm.trans hoi)
    exact getD_set_true' (hall e he hb)
  · rw [getD_set_ne false hij] at hl
    exact getD_set_true' (h j oj hj hl e he hb)

theorem ancs_listed {listed : Array Bool} (hc : Closed ops listed) : ∀ (fuel : Nat) (work seen : List Nat), (∀ h ∈ work, ∀ o, ops[h]? = some o → ∀ e ∈ o.after, Region.binds .any e = true → listed.getD e.on false = true) →
    (∀ x ∈ seen, listed.getD x false = true) → ∀ x ∈ ancs ops fuel work seen, listed.getD x false = true
  | 0, _, _, _, hs => by unfold ancs; exact hs
  | _ + 1, [], _, _, hs => by unfold ancs; exact hs
  | fuel + 1, h :: work, seen, hw, hs => by
    unfold ancs
    split
    · rename_i o ho
      have hnew : ∀ x ∈ ancNew seen o, listed.getD x false = true := by
        intro x hx
        obtain ⟨e, he, rfl⟩ := List.mem_map.1 hx
        obtain ⟨h1, h2⟩ := List.mem_filter.1 he
        simp only [Bool.and_eq_true] at h2
        exact hw h (by simp) o ho e (by simpa using h1) h2.1
      refine ancs_listed hc fuel _ _ (fun x hx o' ho' e he hb => ?_) (fun x hx => ?_)
      · rcases List.mem_append.1 hx with hx | hx
        · exact hc x o' ho' (hnew x hx) e he hb
        · exact hw x (by simp [hx]) o' ho' e he hb
      · rcases List.mem_append.1 hx with hx | hx
        · exact hnew x hx
        · exact hs x hx
    · exact ancs_listed hc fuel _ _ (fun x hx => hw x (by simp [hx])) hs
theorem anc_listed {listed : Array Bool} (hc : Closed ops listed) {i : Nat} (fuel h : Nat) (oh : Oper) (hoh : ops[h]? = some oh) (hall : ∀ e ∈ oh.after, Region.binds .any e = true → listed.getD e.on false = true)
    (ha : ancB ops fuel i h = true) : listed.getD i false = true := by
  unfold ancB at ha
  refine ancs_listed hc _ [h] [] (fun x hx o ho => ?_) (by simp) i (by simpa using ha)
  simp only [List.mem_singleton] at hx
  subst hx
  obtain rfl : oh = o := Option.some.inj (hoh.symm.trans ho)
  exact hall

theorem pOp_put {i j : Nat} {oi oj : Oper} {gi : Option (Nat × Bool)} {p : PV} (hj : ops[j]? = some oj) (hgi : convGuard ops oi.guard = some gi) (hap : oi.apart ops oj = true) {K : FEnv → Store → Prop} {f : FEnv} {st : Store}
    (hlate : hards.contains j = true → lateOf ops hards i = true)
    (hy : SYields P Cl QP (lateOf ops hards i) (su i) oi gi f st p) (h : pOp P ops hards su fin Cl QP j K (fput f oi.dst p) st) :
    pOp P ops hards su fin Cl QP j (fun f' st' => SYields P Cl QP (lateOf ops hards i) (su i) oi gi f' st' p ∧ K (fput f' oi.dst p) st') f st := by
  obtain ⟨h1, h2, h3⟩ := Oper.apart_spec hap
  intro o ho
  obtain rfl : o = oj := Option.some.inj (ho.symm.trans hj)
  obtain ⟨g, hg, h⟩ := h o ho
  refine ⟨g, hg, ?_⟩
  split
  · rename_i hc
    rw [if_pos hc, pwanted_fput hg h1] at h
    have hl := hlate hc
    rcases h with ⟨hw, hh⟩ | ⟨hw, hh⟩
    · refine .inl ⟨hw, ?_⟩
      rw [hard1_fput h1] at hh
      intro I w ev hs hx
      refine (hh I w ev hs hx).mono fun q s hk => ⟨hk.1, (SYields.fput_iff hgi h3).2 ?_, ?_⟩
      · unfold SYields at hy ⊢
        rw [hl] at hy ⊢
        exact hy
      · rw [← fput_comm f p q h2]; exact hk.2
    · refine .inr ⟨hw, (SYields.fput_iff hgi h3).2 hy, ?_⟩
      rw [← fput_comm f p .undef h2]; exact hh
  · rename_i hc
    rw [if_neg hc] at h
    obtain ⟨q, hyq, hK⟩ := h
    refine ⟨q, (SYields.fput_iff hg h1).1 hyq, (SYields.fput_iff hgi h3).2 hy, ?_⟩
    rw [← fput_comm f p q h2]
    exact hK

theorem pAny_first {i : Nat} {oi : Oper} {gi : Option (Nat × Bool)} {p : PV} (hi : ops[i]? = some oi) (hih : hards.contains i = false) (hgi : convGuard ops oi.guard = some gi) :
    ∀ (fuel : Nat) (listed : Array Bool) (f : FEnv) (st : Store), Closed ops listed →
      (∀ j oj, ops[j]? = some oj → j ≠ i → listed.getD j true = false → (∀ e ∈ oj.after, Region.binds .any e = true → e.on ≠ i) → oi.apart ops oj = true) →
      i ∈ Region.ready .any ops listed → SYields P Cl QP (lateOf ops hards i) (su i) oi gi f st p →
      pAny P ops hards su fin Cl QP K fuel (listed.setIfInBounds i true) (fput f oi.dst p) st → pAny P ops hards su fin Cl QP K (fuel + 1) listed f st := by
  intro fuel
  have self : ∀ {K' : FEnv → Store → Prop} {f : FEnv} {st : Store}, SYields P Cl QP (lateOf ops hards i) (su i) oi gi f st p → K' (fput f oi.dst p) st → pOp P ops hards su fin Cl QP i K' f st := by
    intro K' f st hy hK o ho
    obtain rfl : o = oi := Option.some.inj (ho.symm.trans hi)
    exact ⟨gi, hgi, by rw [if_neg (by rw [hih]; simp)]; exact ⟨p, hy, hK⟩⟩
  induction fuel with
  | zero =>
    intro listed f st _ _ hr hy H
    refine ⟨fun h => (by rw [h] at hr; cases hr), fun j hj => ?_⟩
    by_cases hji : j = i
    · subst hji; exact self hy H
    · have := ready_mono hj hji
      rw [H.1] at this
      cases this
  | succ fuel ih =>
    intro listed f st hclo hfree hr hy H
    refine ⟨fun h => (by rw [h] at hr; cases hr), fun j hj => ?_⟩
    by_cases hji : j = i
    · subst hji; exact self hy H
    · have h1 := H.2 j (ready_mono hj hji)
      obtain ⟨hjun, oj, hoj, hall⟩ := mem_ready.1 hj
      have hnot : ∀ e ∈ oj.after, Region.binds .any e = true → e.on ≠ i := fun e he hb heq => by
        have h1 := hall e he hb
        have h0 := (mem_ready.1 hr).1
        rw [heq] at h1
        rcases Nat.lt_or_ge i listed.size with h' | h'
        · simp [h'] at h0 h1; rw [h0] at h1; cases h1
        · simp [Array.getElem?_eq_none h'] at h1
      have hlate : hards.contains j = true → lateOf ops hards i = true := by
        intro hcj
        cases hl : lateOf ops hards i with
        | true => rfl
        | false =>
          unfold lateOf at hl
          simp only [Bool.not_eq_false', List.all_eq_true] at hl
          have := anc_listed hclo _ j oj hoj hall (hl j (by simpa using hcj))
          have h0 := (mem_ready.1 hr).1
          rcases Nat.lt_or_ge i listed.size with h' | h'
          · simp [h'] at h0 this; rw [h0] at this; cases this
          · simp [Array.getElem?_eq_none h'] at this
      have h2 := pOp_put hoj hgi (hfree j oj hoj hji hjun hnot) hlate hy h1
      have hfree' : ∀ k ok, ops[k]? = some ok → k ≠ i → (listed.setIfInBounds j true).getD k true = false →
          (∀ e ∈ ok.after, Region.binds .any e = true → e.on ≠ i) → oi.apart ops ok = true := fun k ok hk hki hun hno => by
        refine hfree k ok hk hki ?_ hno
        by_cases hjk : j = k
        · subst hjk; exact hjun
        · rw [getD_set_ne true hjk] at hun; exact hun
      refine pOp_mono (fun f' st' h3 => ih (listed.setIfInBounds j true) f' st' (hclo.set hj) hfree' (ready_mono hr (Ne.symm hji)) h3.1 ?_) h2
      rw [Array.setIfInBounds_comm _ _ hji]
      exact h3.2

/-- The walk in one order. -/
def pLex (P : Program) (ops : Array Oper) (hards : List Nat) (su fin : Nat → Bool) (Cl : Store → Prop) (QP : PV → Store → Prop) (K : FEnv → Store → Prop) : List (Bool × Nat) → FEnv → Store → Prop
  | [], f, st => K f st
  | x :: l, f, st => pOp P ops hards su fin Cl QP x.2 (pLex P ops hards su fin Cl QP K l) f st

theorem pAny_order : ∀ (L : List (Bool × Nat)) (listed : Array Bool) (f : FEnv) (st : Store), orderOK ops hards L listed = true → (∀ x ∈ L, x.1 = true → hards.contains x.2 = true) → Closed ops listed →
    pLex P ops hards su fin Cl QP K L f st → pAny P ops hards su fin Cl QP K L.length listed f st
  | [], listed, f, st, hB, _, _, h => ⟨by simpa [orderOK] using hB, h⟩
  | (hd, i) :: l, listed, f, st, hB, hL, hclo, h => by
    simp only [orderOK, Bool.and_eq_true] at hB
    obtain ⟨hB1, hB2⟩ := hB
    simp only [pLex] at h
    cases hd with
    | true =>
      simp only [if_true, beq_iff_eq] at hB1
      have hmem : i ∈ Region.ready .any ops listed := by rw [hB1]; simp
      refine ⟨fun h0 => (by rw [h0] at hB1; cases hB1), fun j hj => ?_⟩
      rw [hB1] at hj
      obtain rfl : j = i := by simpa using hj
      exact pOp_mono (fun f' st' h' => pAny_order l _ f' st' hB2 (fun x hx => hL x (by simp [hx])) (hclo.set hmem) h') h
    | false =>
      simp only [Bool.false_eq_true, if_false, Bool.and_eq_true, Bool.not_eq_true'] at hB1
      obtain ⟨⟨hih, hr⟩, hf⟩ := hB1
      have hmem : i ∈ Region.ready .any ops listed := by simpa using hr
      obtain ⟨_, oi, hoi, _⟩ := mem_ready.1 hmem
      obtain ⟨g, hg, hh⟩ := h oi hoi
      rw [if_neg (by rw [hih]; simp)] at hh
      obtain ⟨p, hy, hK⟩ := hh
      exact pAny_first hoi hih hg l.length listed f st hclo (Region.free_spec hoi hf) hmem hy
        (pAny_order l _ _ st hB2 (fun x hx => hL x (by simp [hx])) (hclo.set hmem) hK)

/-! ### Down to the model -/
structure RelF (N : Lim) (D : Fix) (I : Imm) (f : FEnv) (st : Store) (a : Act) (w : World) : Prop where
  env : ∀ t, vrep I (f t) (a.tmps.getD t undef)
  size : a.tmps.size = N.n
  fix : D.Holds N I a
  st : SRep I st w

theorem RelF.x {N : Lim} {D : Fix} {I : Imm} {f : FEnv} {st : Store} {a : Act} {w : World} (h : RelF N D I f st a w) (l : List Operand) : XRep I (mevalF f) a.eval l := by
  intro x _ m hm
  cases x with
  | tmp t => simp only [convX, Option.some.injEq] at hm; subst hm; exact h.env t
  | const v =>
    simp only [convX] at hm
    split at hm
    · rename_i hc
      simp only [Option.some.injEq] at hm; subst hm; exact pvOf_spec hc
    · cases hm
  | global g =>
    simp only [convX, Option.some.injEq] at hm
    subst hm
    simp only [mevalF, Act.eval, vrep]
  | func f =>
    simp only [convX, Option.some.injEq] at hm
    subst hm
    simp only [mevalF, Act.eval, vrep]
    exact ⟨[], [], rfl, by simp [vreps], by simp [vreps]⟩

theorem RelF.put {N : Lim} {D : Fix} {I I' : Imm} {f : FEnv} {st st' : Store} {a : Act} {w w' : World} (h : RelF N D I f st a w) (hI : I.le I') (hs : SRep I' st' w') {d : Option Nat}
    (hd : ∀ t, d = some t → N.ok t) {p : PV} {v : Value} (hv : d ≠ none → vrep I' p v) : RelF N D I' (fput f d p) st' (a.put d v) w' := by
  cases d with
  | none => exact ⟨fun t => vrep_mono hI _ _ (h.env t), h.size, h.fix.mono hI, hs⟩
  | some t =>
    refine ⟨fun u => ?_, by simp [Act.put, h.size], (h.fix.mono hI).put hd v, hs⟩
    have hlt : t < a.tmps.size := by rw [h.size]; exact (hd t rfl).1
    by_cases htu : t = u
    · subst htu
      have : (a.put (some t) v).tmps.getD t undef = v := by simp [Act.put, hlt]
      rw [this]
      simp only [fput, if_true]
      exact hv (by simp)
    · have : (a.put (some t) v).tmps.getD u undef = a.tmps.getD u undef := by
        simp [Act.put, Array.getElem?_setIfInBounds, htu]
      rw [this]
      simp only [fput, if_neg htu]
      exact vrep_mono hI _ _ (h.env u)

theorem wanted_of {N : Lim} {D : Fix} {I : Imm} {f : FEnv} {st : Store} {a : Act} {w : World} (h : RelF N D I f st a w) {o : Oper} {g : Option (Nat × Bool)} (hg : convGuard ops o.guard = some g) {b : Bool}
    (hw : pwanted f g = some b) : Region.wanted o (yielded ops a.tmps) = b := by
  unfold Region.wanted
  cases hgd : o.guard with
  | none =>
    rw [hgd] at hg
    simp only [convGuard, Option.some.injEq] at hg
    subst hg
    simp only [pwanted, Option.some.injEq] at hw
    exact hw
  | some jw =>
    obtain ⟨j, want⟩ := jw
    rw [hgd] at hg
    simp only [convGuard] at hg
    split at hg
    · rename_i t ht
      simp only [Option.some.injEq] at hg
      subst hg
      simp only [pwanted] at hw
      split at hw
      · rename_i c hc
        simp only [Option.some.injEq] at hw
        have he := h.env t
        rw [hc] at he
        simp only [vrep] at he
        have hlt : t < a.tmps.size := by
          rcases Nat.lt_or_ge t a.tmps.size with hlt | hge
          · exact hlt
          · simp [Array.getElem?_eq_none hge] at he
            simp [undef] at he
        have hat : a.tmps[t]? = some (.bool c) := by
          rw [Array.getElem?_eq_getElem hlt]
          simpa [hlt] using he
        simp only [yielded, ht, Option.bind_some, hat]
        rw [← hw]
        cases c <;> cases want <;> rfl
      · rename_i vs hc
        simp only [Option.some.injEq] at hw
        have he := h.env t
        rw [hc] at he
        simp only [vrep] at he
        simp only [yielded, ht, Option.bind_some]
        rw [← hw]
        cases hq : a.tmps[t]? with
        | none => rfl
        | some v =>
          have : v = .tuple vs := by simpa [hq] using he
          subst this
          rfl
      · cases hw
    · cases hg

def HRelF (N : Lim) (D : Fix) (I0 : Imm) (w0 : World) (R : FEnv → Store → Prop) (a : Act) (w : World) : Prop :=
  ∃ I f st, I0.le I ∧ Calm w0 w ∧ RelF N D I f st a w ∧ R f st

theorem softOper_sound {F : Fence} {n : Nat} (hF : Wide F) {N : Lim} {D : Fix} {o : Oper} (hdf : ∀ c, o.op ≠ .defer c) (hd : ∀ t, o.dst = some t → N.ok t)
    {I : Imm} {f : FEnv} {st : Store} {a : Act} {w : World} (hr : RelF N D I f st a w) {QP : PV → Store → Prop} {p : PV} (hk : Soft1 P st QP o f p) {R : FEnv → Store → Prop} (hR : R (fput f o.dst p) st)
    {next : Act → World → Prop} {Q : Exit → Act → World → Prop} (hnext : ∀ a' w', HRelF N D I w R a' w' → next a' w')
    (hpan : ∀ ch w', HPan I w QP ch w' → Q (.panic ch) a w') : o.wpIn F n P a w next Q := by
  refine ⟨fun f _ => hF.fn f, ?_⟩
  rw [Oper.semAt_eq F.round a.eval o hdf]
  have h := hk I w a.eval hr.st (hr.x _)
  generalize (execOp a.eval o).run P w = r at h
  cases r with
  | ok x w' =>
    cases x <;> simp only [SoftR] at h <;> simp only [Oper.uponIn]
    case value v =>
      obtain ⟨I', st', h1, h2, h3, rfl, h4⟩ := h
      exact hnext _ _ ⟨I', _, _, h1, h2, hr.put h1 h3 hd (fun _ => h4), hR⟩
    case enter g args =>
      obtain ⟨ps, I1, h1, h2, h3, vs, rfl, h4, h5⟩ := h
      refine ⟨fun hx => (by rw [hF.depth] at hx; simp at hx), hF.fn _, fun cs hroom => ?_⟩
      obtain ⟨en, w2, fr, hRR, hc, h6, h7⟩ := h5.out I1 w' vs h3 h4 cs
      refine ⟨en, w2, fr, ?_, ?_, h6, h7⟩
      · obtain ⟨I', st', g1, g2, g3, pe, g4, rfl, g5⟩ := hRR
        rcases g5 with rfl | ⟨q, rfl, hq⟩
        · simp only [erep] at g4
          obtain ⟨v, rfl, g6⟩ := g4
          exact hnext _ _ ⟨I', _, _, Imm.le_trans h1 g1, h2.trans g2, hr.put (Imm.le_trans h1 g1) g3 hd (fun _ => g6), hR⟩
        · simp only [erep] at g4
          obtain ⟨v, rfl, g6⟩ := g4
          exact hpan _ _ ⟨v, rfl, I', _, Imm.le_trans h1 g1, h2.trans g2, g3, q, g6, hq⟩
      · cases en with
        | returned v => exact (StepsIn.of_steps hc).mono (fun mm _ => hF.fenced mm)
        | panicked ch => exact (StepsIn.of_steps hc).mono (fun mm _ => hF.fenced mm)
        | outgrown => exact hc
  | halt x w' => cases x <;> simp only [SoftR] at h

theorem HPan.mono {I0 : Imm} {w0 : World} {QP QP' : PV → Store → Prop} {ch : List PanicEntry} {w : World} (h : HPan I0 w0 QP ch w) (hq : ∀ p s, QP p s → QP' p s) : HPan I0 w0 QP' ch w := by
  obtain ⟨v, h0, I, st, h1, h2, h3, p, h4, h5⟩ := h
  exact ⟨v, h0, I, st, h1, h2, h3, p, h4, hq _ _ h5⟩

theorem hardOper_sound {F : Fence} {n : Nat} (hF : Wide F) {N : Lim} {D : Fix} {o : Oper} (hdf : ∀ c, o.op ≠ .defer c) (hd : ∀ t, o.dst = some t → N.ok t)
    {I : Imm} {f : FEnv} {st : Store} {a : Act} {w : World} (hr : RelF N D I f st a w) {QP : PV → Store → Prop} {R : FEnv → Store → Prop} (hk : Hard1 P st QP o f (fun p st' => R (fput f o.dst p) st'))
    {next : Act → World → Prop} {Q : Exit → Act → World → Prop} (hnext : ∀ a' w', HRelF N D I w R a' w' → next a' w')
    (hpan : ∀ ch w', HPan I w QP ch w' → Q (.panic ch) a w') : o.wpIn F n P a w next Q := by
  refine ⟨fun f _ => hF.fn f, ?_⟩
  rw [Oper.semAt_eq F.round a.eval o hdf]
  have h := hk I w a.eval hr.st (hr.x _)
  generalize (execOp a.eval o).run P w = r at h
  cases r with
  | ok x w' =>
    cases x <;> simp only [UponR] at h <;> simp only [Oper.uponIn]
    case value v =>
      obtain ⟨I', st', h1, h2, h3, p, h4, h5⟩ := h
      exact hnext _ _ ⟨I', _, _, h1, h2, hr.put h1 h3 hd (fun _ => h4), h5⟩
    case skip =>
      obtain ⟨I', st', h1, h2, h3, h5⟩ := h
      exact hnext _ _ ⟨I', _, _, h1, h2, hr.put h1 h3 hd (fun _ => by simp only [vrep]), h5⟩
    case enter g args =>
      obtain ⟨ps, st1, I1, h1, h2, h3, vs, rfl, h4, h5⟩ := h
      refine ⟨fun hx => (by rw [hF.depth] at hx; simp at hx), hF.fn _, fun cs hroom => ?_⟩
      obtain ⟨en, w2, fr, hRR, hc, h6, h7⟩ := h5.out I1 w' vs h3 h4 cs
      refine ⟨en, w2, fr, ?_, ?_, h6, h7⟩
      · obtain ⟨I', st', g1, g2, g3, pe, g4, g5⟩ := hRR
        cases pe with
        | ret p =>
          simp only [erep] at g4
          obtain ⟨v, rfl, g6⟩ := g4
          simp only [endPost] at g5
          exact hnext _ _ ⟨I', _, _, Imm.le_trans h1 g1, h2.trans g2, hr.put (Imm.le_trans h1 g1) g3 hd (fun _ => g6), g5⟩
        | panic p =>
          simp only [erep] at g4
          obtain ⟨v, rfl, g6⟩ := g4
          simp only [endPost] at g5
          exact hpan _ _ ⟨v, rfl, I', st', Imm.le_trans h1 g1, h2.trans g2, g3, p, g6, g5⟩
      · cases en with
        | returned v => exact (StepsIn.of_steps hc).mono (fun mm _ => hF.fenced mm)
        | panicked ch => exact (StepsIn.of_steps hc).mono (fun mm _ => hF.fenced mm)
        | outgrown => exact hc
    case round l f tmps assign body =>
      refine ⟨fun hx => (by rw [hF.depth] at hx; simp at hx), (hF.round h).mono fun en w2 hR => ?_⟩
      obtain ⟨I', st', g1, g2, g3, pe, g4, g5⟩ := hR
      cases pe with
      | ret p =>
        simp only [erep] at g4
        obtain ⟨v, rfl, g6⟩ := g4
        simp only [endPost] at g5
        exact hnext _ _ ⟨I', _, _, g1, g2, hr.put g1 g3 hd (fun _ => g6), g5⟩
      | panic p =>
        simp only [erep] at g4
        obtain ⟨v, rfl, g6⟩ := g4
        simp only [endPost] at g5
        exact hpan _ _ ⟨v, rfl, I', st', g1, g2, g3, p, g6, g5⟩
  | halt x w' =>
    cases x <;> simp only [UponR] at h <;> simp only [Oper.uponIn]
    case panic v =>
      obtain ⟨I', st', h1, h2, h3, p, h4, h5⟩ := h
      exact hpan _ _ ⟨v, rfl, I', st', h1, h2, h3, p, h4, h5⟩

theorem wpAnyIn_of_pAny {F : Fence} {n : Nat} (hF : Wide F) {N : Lim} {D : Fix} (hdf : ∀ (i : Nat) (o : Oper), ops[i]? = some o → (∀ c, o.op ≠ .defer c) ∧ ∀ t, o.dst = some t → N.ok t)
    {Q : Exit → Act → World → Prop} {I0 : Imm} {w0 : World} (hQ : ∀ a w, HRelF N D I0 w0 K a w → Q .normal a w) (hpan : ∀ ch a w, HPanA N D I0 w0 QP ch a w → Q (.panic ch) a w) (hfin : ∀ j i, fin j = true → su i = true → ancB ops ops.size i j = true) :
    ∀ (fuel : Nat) (listed : Array Bool) (f : FEnv) (st : Store) (I : Imm) (a : Act) (w : World), Closed ops listed → (Cl st ∨ ∀ i, su i = true → listed.getD i false = true) → I0.le I → Calm w0 w → RelF N D I f st a w →
      pAny P ops hards su fin Cl QP K fuel listed f st → wpAnyIn F n P .any ops Q fuel listed a w
  | 0, listed, f, st, I, a, w, _, _, hI, hw, hr, h => ⟨h.1, hQ _ _ ⟨I, f, st, hI, hw, hr, h.2⟩⟩
  | fuel + 1, listed, f, st, I, a, w, hclo, hst, hI, hw, hr, h => by
    refine ⟨fun h0 => hQ _ _ ⟨I, f, st, hI, hw, hr, h.1 h0⟩, fun i hi => ?_⟩
    have hp := h.2 i hi
    unfold wpOpIn
    split
    · rename_i ho
      obtain ⟨_, oj, hoj, _⟩ := mem_ready.1 hi
      rw [ho] at hoj; cases hoj
    · rename_i o ho
      obtain ⟨g, hg, hh⟩ := hp o ho
      obtain ⟨hd1, hd2⟩ := hdf i o ho
      have hst2 : Cl st ∨ ∀ k, su k = true → (listed.setIfInBounds i true).getD k false = true := hst.imp_right fun h k hk => getD_set_true' (h k hk)
      have fin2 : ∀ a' w', HRelF N D I w (fun f' st' => (Cl st' ∨ ∀ k, su k = true → (listed.setIfInBounds i true).getD k false = true) ∧ pAny P ops hards su fin Cl QP K fuel (listed.setIfInBounds i true) f' st') a' w' → wpAnyIn F n P .any ops Q fuel (listed.setIfInBounds i true) a' w' :=
        fun a' w' ⟨I', f', st', h1, h2, h3, h4, h5⟩ => wpAnyIn_of_pAny hF hdf hQ hpan hfin fuel _ f' st' I' a' w' (hclo.set hi) h4 (Imm.le_trans hI h1) (hw.trans h2) h3 h5
      have skipped : pwanted f g = some false → pAny P ops hards su fin Cl QP K fuel (listed.setIfInBounds i true) (fput f o.dst .undef) st →
          (if Region.wanted o (yielded ops a.tmps) = true then o.wpIn F n P a w (wpAnyIn F n P .any ops Q fuel (listed.setIfInBounds i true)) Q
           else (∀ f, o.about P w a.eval = some f → F.fn f) ∧ wpAnyIn F n P .any ops Q fuel (listed.setIfInBounds i true) (a.put o.dst undef) w) := by
        intro hwt hK
        have := wanted_of hr hg hwt
        rw [if_neg (by rw [this]; simp)]
        refine ⟨fun _ _ => hF.fn _, fin2 _ _ ⟨I, _, st, I.le_refl, Calm.refl w, ?_, hst2, hK⟩⟩
        exact hr.put I.le_refl hr.st hd2 (fun _ => by simp only [vrep]; rfl)
      by_cases hc : hards.contains i = true
      · rw [if_pos hc] at hh
        rcases hh with ⟨hwt, hs⟩ | ⟨hwt, hK⟩
        · rw [if_pos (wanted_of hr hg hwt)]
          have hs2 : Hard1 P st QP o f (fun p st' => (Cl st' ∨ ∀ k, su k = true → (listed.setIfInBounds i true).getD k false = true) ∧ pAny P ops hards su fin Cl QP K fuel (listed.setIfInBounds i true) (fput f o.dst p) st') := by
            intro I w ev hs' hx
            refine (hs I w ev hs' hx).mono fun p s hk => ⟨?_, hk.2⟩
            cases hf : fin i with
            | false => exact .inl (hk.1 hf)
            | true =>
              obtain ⟨_, oi, hoi, hall⟩ := mem_ready.1 hi
              exact .inr fun k hk => getD_set_true' (anc_listed hclo _ i oi hoi hall (hfin i k hf hk))
          exact hardOper_sound hF hd1 hd2 hr hs2 fin2 (fun ch w' hh => hpan ch a w' (hh.act hI hw hr.fix))
        · exact skipped hwt hK
      · rw [if_neg hc] at hh
        obtain ⟨p, hy, hK⟩ := hh
        rcases hy with ⟨hwt, hs⟩ | ⟨hwt, rfl⟩
        · rw [if_pos (wanted_of hr hg hwt)]
          have hs' : Soft1 P st QP o f p := by
            split at hs
            · refine hs st fun hsu => hst.resolve_right fun h0 => ?_
              have h1 := h0 i hsu
              have h2 := (mem_ready.1 hi).1
              rcases Nat.lt_or_ge i listed.size with h' | h'
              · simp [h'] at h2 h1; rw [h2] at h1; cases h1
              · simp [Array.getElem?_eq_none h'] at h1
            · exact hs
          exact softOper_sound hF hd1 hd2 hr hs' (R := fun f' st' => (Cl st' ∨ ∀ k, su k = true → (listed.setIfInBounds i true).getD k false = true) ∧ pAny P ops hards su fin Cl QP K fuel (listed.setIfInBounds i true) f' st') ⟨hst2, hK⟩ fin2
            (fun ch w' hh => hpan ch a w' (hh.act hI hw hr.fix))
        · exact skipped hwt hK
end

end Go.Pv
/- The compact code is met by the model's own: all of it, and functions. -/
set_option linter.unusedSimpArgs false
namespace Go.Pv
variable {P : Program}

theorem relF_of {N : Lim} {D : Fix} {I : Imm} {e : Env} {st : Store} {a : Act} {w : World} (h : Rel N D I ⟨e, st⟩ a w) : RelF N D I (eget e) st a w := ⟨h.env, h.size, h.fix, h.st⟩
theorem RelF.rel {N : Lim} {D : Fix} {I : Imm} {f : FEnv} {e : Env} {st : Store} {a : Act} {w : World} (h : RelF N D I f st a w) (he : ∀ t, eget e t = f t) : Rel N D I ⟨e, st⟩ a w :=
  ⟨fun t => by rw [he]; exact h.env t, h.size, h.fix, h.st⟩

theorem eget_eput (e : Env) (d : Option Nat) (p : PV) : eget (eput e d p) = fput (eget e) d p := by
  cases d with
  | none => rfl
  | some t =>
    funext u
    simp only [fput]
    by_cases h : t = u
    · subst h; simp [eget_eput_same]
    · simp [h, eget_eput_ne _ _ _ _ h]
theorem meval_eq (e : Env) (m : MX) : meval e m = mevalF (eget e) m := by cases m <;> rfl

theorem convInsts_cons {N : Lim} {ops : Array Oper} {o : Oper} {l : List Oper} {ms : List MInst} (h : convInsts P N ops (o :: l) = some ms) :
    ∃ g m ms', ms = ⟨o.dst, g, m⟩ :: ms' ∧ convGuard ops o.guard = some g ∧ convOp P o.op = some m ∧ convInsts P N ops l = some ms' ∧ (∀ t, o.dst = some t → N.ok t) ∧ ∀ c, o.op ≠ .defer c := by
  simp only [convInsts] at h
  split at h
  · rename_i g m ms' hg hm hms
    split at h
    · rename_i hc
      simp only [Option.some.injEq] at h
      simp only [Bool.and_eq_true] at hc
      refine ⟨g, m, ms', h.symm, hg, hm, hms, fun t ht => ?_, fun c hcc => ?_⟩
      · have := hc.1
        rw [ht] at this
        simpa using this
      · have := hc.2
        rw [hcc] at this
        cases this
    · cases h
  · cases h

theorem convInsts_all {N : Lim} {ops : Array Oper} : ∀ {l : List Oper} {ms : List MInst}, convInsts P N ops l = some ms → ∀ o ∈ l, (∀ c, o.op ≠ .defer c) ∧ ∀ t, o.dst = some t → N.ok t
  | [], _, _, o, ho => by cases ho
  | o :: l, ms, h, o', ho' => by
    obtain ⟨g, m, ms', rfl, _, _, h3, h4, h5⟩ := convInsts_cons h
    rcases List.mem_cons.1 ho' with rfl | h'
    · exact ⟨h5, h4⟩
    · exact convInsts_all h3 o' h'

/-- A region in the text's order, ahead of further operations. -/
theorem region_soundLT {F : Fence} {n : Nat} (hF : Wide F) {N : Lim} {D : Fix} {ops : Array Oper} {K : PS → Prop} {QP : PV → Store → Prop} {Q : Exit → Act → World → Prop} {I0 : Imm} {w0 : World}
    {L : List Nat} (hQ : ∀ a w, HRel N D I0 w0 K a w → wpOpsIn F n P ops Q L a w) (hpan : ∀ ch a w, HPanA N D I0 w0 QP ch a w → Q (.panic ch) a w) :
    ∀ (l : List Oper) (k : Nat) (ms : List MInst), (∀ j : Nat, j < l.length → l[j]? = ops[k + j]?) → convInsts P N ops l = some ms →
      ∀ I (s : PS) a w, I0.le I → Calm w0 w → Rel N D I s a w → mops P ms s K QP → wpOpsIn F n P ops Q (List.range' k l.length ++ L) a w
  | [], k, ms, _, hc, I, s, a, w, hI, hw, hr, h => by
    simp only [convInsts, Option.some.injEq] at hc
    subst hc
    simp only [mops] at h
    simp only [List.length_nil, List.range'_zero, List.nil_append]
    exact hQ _ _ ⟨I, s, hI, hw, hr, h⟩
  | o :: l, k, ms, hl, hc, I, s, a, w, hI, hw, hr, h => by
    obtain ⟨e, st⟩ := s
    obtain ⟨g, m, ms', rfl, hg, hm, hms, hd, hdf⟩ := convInsts_cons hc
    have h0 : ops[k]? = some o := by simpa using (hl 0 (by simp)).symm
    have hl' : ∀ j : Nat, j < l.length → l[j]? = ops[k + 1 + j]? := fun j hj => by
      have := hl (j + 1) (by simpa using hj)
      simpa [Nat.add_assoc, Nat.add_comm 1 j] using this
    simp only [List.length_cons, List.range'_succ, List.cons_append, wpOpsIn, h0]
    have step : ∀ (I : Imm) (e : Env) (a : Act) (w : World), I0.le I → Calm w0 w → Rel N D I ⟨e, st⟩ a w → mop P m (meval e) st (fun p st' => mops P ms' ⟨eput e o.dst p, st'⟩ K QP) QP →
        o.wpIn F n P a w (wpOpsIn F n P ops Q (List.range' (k + 1) l.length ++ L)) Q := fun I e a w hI hw hr hk =>
      oper_sound hF hm hdf hd hr (K := fun s' => mops P ms' s' K QP) hk
        (fun a' w' ⟨I', s', h1, h2, h3, h4⟩ => region_soundLT hF hQ hpan l (k + 1) ms' hl' hms I' s' a' w' (Imm.le_trans hI h1) (hw.trans h2) h3 h4)
        (fun ch w' hh => hpan ch a w' (hh.act hI hw hr.fix))
    simp only [mops] at h
    cases g with
    | none =>
      simp only at h
      rw [if_pos (wanted_of (relF_of hr) hg (b := true) rfl)]
      exact step I e a w hI hw hr h
    | some tw =>
      obtain ⟨t, want⟩ := tw
      simp only at h
      split at h
      · rename_i c hcc
        have hw' : Region.wanted o (yielded ops a.tmps) = (c == want) := wanted_of (relF_of hr) hg (by simp only [pwanted, hcc])
        by_cases hcw : c = want
        · subst hcw
          rw [if_pos (by rw [hw']; simp)]
          exact step I _ a w hI hw (hr.guard hcc) (h.1 rfl)
        · have hcn : c = !want := by cases c <;> cases want <;> simp_all
          rw [if_neg (by rw [hw']; simpa using hcw)]
          refine ⟨fun _ _ => hF.fn _, ?_⟩
          have hr' := (hr.guard hcc)
          rw [hcn] at hr'
          exact region_soundLT hF hQ hpan l (k + 1) ms' hl' hms I _ _ w hI hw (hr'.put I.le_refl hr.st hd (fun _ => by simp only [vrep]; rfl)) (h.2 hcn)
      · rename_i vs hcc
        have hw' : Region.wanted o (yielded ops a.tmps) = false := wanted_of (relF_of hr) hg (by simp only [pwanted, hcc])
        rw [if_neg (by rw [hw']; simp)]
        exact ⟨fun _ _ => hF.fn _, region_soundLT hF hQ hpan l (k + 1) ms' hl' hms I _ _ w hI hw (hr.put I.le_refl hr.st hd (fun _ => by simp only [vrep]; rfl)) h⟩
      · exact h.elim

/-- A region in the text's order. -/
theorem region_sound {F : Fence} {n : Nat} (hF : Wide F) {N : Lim} {D : Fix} {ops : Array Oper} {K : PS → Prop} {QP : PV → Store → Prop} {Q : Exit → Act → World → Prop} {I0 : Imm} {w0 : World}
    (hQ : ∀ a w, HRel N D I0 w0 K a w → Q .normal a w) (hpan : ∀ ch a w, HPanA N D I0 w0 QP ch a w → Q (.panic ch) a w) (l : List Oper) (k : Nat) (ms : List MInst) (h1 : ∀ j : Nat, l[j]? = ops[k + j]?) (h2 : convInsts P N ops l = some ms)
    (I : Imm) (s : PS) (a : Act) (w : World) (h3 : I0.le I) (h4 : Calm w0 w) (h5 : Rel N D I s a w) (h6 : mops P ms s K QP) : wpOpsIn F n P ops Q (List.range' k l.length) a w := by
  have := region_soundLT (n := n) (L := []) hF hQ hpan l k ms (fun j _ => h1 j) h2 I s a w h3 h4 h5 h6
  rwa [List.append_nil] at this

theorem convInsts_get {N : Lim} {ops : Array Oper} : ∀ {l : List Oper} {ms : List MInst}, convInsts P N ops l = some ms → ∀ (i : Nat) (o : Oper), l[i]? = some o → ∃ g m, ms[i]? = some ⟨o.dst, g, m⟩ ∧ convGuard ops o.guard = some g ∧ convOp P o.op = some m
  | [], _, _, i, o, ho => by simp at ho
  | o :: l, ms, h, i, o', ho' => by
    obtain ⟨g, m, ms', rfl, h1, h2, h3, _, _⟩ := convInsts_cons h
    cases i with
    | zero => simp at ho'; subst ho'; exact ⟨g, m, by simp, h1, h2⟩
    | succ i => simpa using convInsts_get h3 i o' (by simpa using ho')

theorem mval_nostore {v : MVal} (h : usesStore v = false) {ρ : MX → PV} {st st' : Store} {K : PV → Prop} (hk : mval v ρ st K) : mval v ρ st' K := by
  cases v <;> first | exact hk | (simp [usesStore] at h)

theorem soft1_sound {e : Env} {st : Store} {QP : PV → Store → Prop} {o : Oper} {m : MOp} (hm : convOp P o.op = some m) {K' : PV → Prop} (hk : soft1 P m e st K' QP) : ∃ p, Soft1 P st QP o (eget e) p ∧ K' p := by
  cases m with
  | val v =>
    simp only [soft1] at hk
    have hcv : convVal P o.op = some v := convOp_val hm
    obtain ⟨p, hK, hgv⟩ := val_sound hcv hk
    refine ⟨p, fun I w ev hs hx => ?_, hK⟩
    have hx' : XRep I (meval e) ev o.op.operands.toList := fun x hx1 m hm1 => by rw [meval_eq]; exact hx x hx1 m hm1
    obtain ⟨u, w', I', h1, h2, h3, h4, h5⟩ := hgv I w ev o rfl hs hx'
    rw [h1]
    exact ⟨I', st, h2, h3, h4, rfl, h5⟩
  | call f args =>
    simp only [soft1] at hk
    obtain ⟨p, hcall, hK⟩ := hk
    refine ⟨p, fun I w ev hs hx => ?_, hK⟩
    have hx' : XRep I (meval e) ev o.op.operands.toList := fun x hx1 m hm1 => by rw [meval_eq]; exact hx x hx1 m hm1
    obtain ⟨f0, args0, ats, ho, hf0, ha0⟩ := convOp_call hm
    rw [run_callOp ho]
    have hv := hx' f0 (by rw [ho]; simp [Op.operands, Call.operands]) f hf0
    have hvs := xreps (ρ := meval e) (fun y hy => hx' y (by rw [ho]; simp only [Op.operands, Call.operands, Array.toList_append, List.mem_append]; exact .inr hy)) ha0
    unfold PCallF at hcall
    split at hcall
    · rename_i g' fs cs hfe
      rw [hfe] at hv
      simp only [vrep] at hv
      obtain ⟨us, ws, hfv, h1, h2⟩ := hv
      rw [hfv]
      have hvs' := vreps_append (vreps_append h1 hvs) h2
      rcases hcall with hcall | hcall
      · simp only [Deferred.ofValue, Sem.run_bind, Sem.run_pure, Result.andThen_ok, invoke, callFunc_run hcall.enters, SoftR]
        exact ⟨_, I, I.le_refl, Calm.refl w, hs, us ++ args0.toList.map ev ++ ws, by simp, hvs', hcall⟩
      · obtain ⟨v, w', g1, I', st', g2, g3, g4, p', g5, rfl, g6⟩ := hcall.out I w _ hs hvs'
        have e : (us.toArray ++ (args0.toList.map ev).toArray ++ ws.toArray) = (us ++ args0.toList.map ev ++ ws).toArray := by simp
        simp only [Deferred.ofValue, Sem.run_bind, Sem.run_pure, Result.andThen_ok, invoke, e, g1, SoftR]
        refine ⟨I', _, g2, g3, g4, rfl, ?_⟩
        rcases g6 with g6 | ⟨q, g6, -⟩
        · cases g6; exact g5
        · cases g6
    · exact hcall.elim
  | _ => simp [soft1] at hk

theorem late1_sound {Cl : Store → Prop} {e : Env} {QP : PV → Store → Prop} {o : Oper} {m : MOp} (hm : convOp P o.op = some m) {K' : PV → Prop} (hk : late1 P Cl m e K' QP) :
    ∃ p, (∀ st, ((match m with | .val v => usesStore v | _ => true) = true → Cl st) → Soft1 P st QP o (eget e) p) ∧ K' p := by
  cases m with
  | val v =>
    simp only [late1] at hk
    obtain ⟨p, h1, h2⟩ := hk
    refine ⟨p, fun st hst => ?_, h2⟩
    have h1' : mval v (meval e) st (fun q => q = p) := by
      split at h1
      · rename_i hu
        exact h1 st (hst hu)
      · rename_i hu
        exact mval_nostore (by simpa using hu) h1
    obtain ⟨q, h3, h4⟩ := soft1_sound (QP := QP) (K' := fun q => q = p) hm (by simp only [soft1]; exact h1')
    rw [h4] at h3
    exact h3
  | call f args =>
    simp only [late1] at hk
    obtain ⟨p, hcall, hK⟩ := hk
    refine ⟨p, fun st hst => ?_, hK⟩
    obtain ⟨q, h3, h4⟩ := soft1_sound (QP := QP) (K' := fun q => q = p) hm (by simp only [soft1]; exact ⟨p, hcall st (hst rfl), rfl⟩)
    rw [h4] at h3
    exact h3
  | _ => simp [late1] at hk

theorem fin_spec {ops : Array Oper} {hards : List Nat} {ms : List MInst} : ∀ j i, finOf ms ops hards j = true → suOf ms ops hards i = true → ancB ops ops.size i j = true := by
  intro j i hj hi
  unfold finOf at hj
  split at hj
  · simp only [Bool.and_eq_true, List.all_eq_true, List.mem_range, Bool.or_eq_true, Bool.not_eq_true'] at hj
    have hlt : i < ms.length := by
      unfold suOf at hi
      split at hi
      · rename_i m hm
        exact (List.getElem?_eq_some_iff.1 hm).1
      · cases hi
    rcases hj.2 i hlt with h | h
    · rw [hi] at h; cases h
    · exact h
  · cases hj
/-- From the walk over environments as lists to the walk over environments as functions. -/
theorem draw_lex {N : Lim} {ops : Array Oper} {hards : List Nat} {Cl : Store → Prop} {ms : List MInst} (hms : convInsts P N ops ops.toList = some ms) {QP : PV → Store → Prop} {K : PS → Prop} :
    ∀ (L : List (Bool × Nat)) (r : List (DFlag × MInst)) (s : PS), pickInsts ms ops hards L = some r → (∀ x ∈ L, hards.contains x.2 = x.1) →
      mdraw P Cl r s K QP → pLex P ops hards (suOf ms ops hards) (finOf ms ops hards) Cl QP (fun f st => ∃ e', (∀ t, eget e' t = f t) ∧ K ⟨e', st⟩) L (eget s.env) s.st
  | [], r, s, hr, _, h => by
    simp only [pickInsts, Option.some.injEq] at hr
    subst hr
    simp only [mdraw] at h
    exact ⟨s.env, fun _ => rfl, h⟩
  | x :: L, r, s, hr, hL, h => by
    simp only [pickInsts] at hr
    split at hr
    · rename_i mi r' hmi hr'
      simp only [Option.some.injEq] at hr
      subst hr
      have ih := fun (s' : PS) (h' : mdraw P Cl r' s' K QP) => draw_lex hms L r' s' hr' (fun y hy => hL y (by simp [hy])) h'
      have hx := hL x (by simp)
      intro o ho
      obtain ⟨g, m, hg1, hg, hm⟩ := convInsts_get hms x.2 o (by simpa using ho)
      obtain rfl : mi = ⟨o.dst, g, m⟩ := Option.some.inj (hmi.symm.trans hg1)
      refine ⟨g, hg, ?_⟩
      -- the operation carried out
      have go : ∀ (e : Env) (st : Store), (∀ t, eget e t = eget s.env t) → pwanted (eget s.env) g = some true → mdraw.one P Cl (flagOf ms ops hards x) ⟨o.dst, g, m⟩ ⟨e, st⟩ (fun p st' => mdraw P Cl r' ⟨eput e o.dst p, st'⟩ K QP) QP → st = s.st →
          if hards.contains x.2 = true then
            (pwanted (eget s.env) g = some true ∧ Hard1 P s.st QP o (eget s.env) (fun p st' => (finOf ms ops hards x.2 = false → Cl st') ∧ pLex P ops hards (suOf ms ops hards) (finOf ms ops hards) Cl QP (fun f st => ∃ e', (∀ t, eget e' t = f t) ∧ K ⟨e', st⟩) L (fput (eget s.env) o.dst p) st')) ∨
              (pwanted (eget s.env) g = some false ∧ pLex P ops hards (suOf ms ops hards) (finOf ms ops hards) Cl QP (fun f st => ∃ e', (∀ t, eget e' t = f t) ∧ K ⟨e', st⟩) L (fput (eget s.env) o.dst .undef) s.st)
          else ∃ p, SYields P Cl QP (lateOf ops hards x.2) (suOf ms ops hards x.2) o g (eget s.env) s.st p ∧ pLex P ops hards (suOf ms ops hards) (finOf ms ops hards) Cl QP (fun f st => ∃ e', (∀ t, eget e' t = f t) ∧ K ⟨e', st⟩) L (fput (eget s.env) o.dst p) s.st := by
        intro e st he hw hone hst
        subst hst
        have hfe : eget e = eget s.env := funext he
        unfold flagOf at hone
        cases hx1 : x.1 with
        | true =>
          rw [hx1] at hx
          rw [if_pos hx]
          rw [hx1] at hone
          simp only [if_true] at hone
          refine .inl ⟨hw, fun I w ev hs hxr => ?_⟩
          have hx' : XRep I (meval e) ev o.op.operands.toList := fun y hy1 m hm1 => by rw [meval_eq, hfe]; exact hxr y hy1 m hm1
          cases hfn : finOf ms ops hards x.2 with
          | true =>
            rw [hfn] at hone
            simp only [if_true, mdraw.one] at hone
            refine (op_sound (fun _ => rfl) hm hone hs hx').mono fun p st' hk => ⟨fun h => (by cases h), ?_⟩
            have := ih ⟨eput e o.dst p, st'⟩ hk
            rw [eget_eput, hfe] at this
            exact this
          | false =>
            rw [hfn] at hone
            simp only [Bool.false_eq_true, if_false, mdraw.one] at hone
            refine (op_sound (fun _ => rfl) hm hone hs hx').mono fun p st' hk => ⟨fun _ => hk.1, ?_⟩
            have := ih ⟨eput e o.dst p, st'⟩ hk.2
            rw [eget_eput, hfe] at this
            exact this
        | false =>
          rw [hx1] at hx
          rw [if_neg (by rw [hx]; simp)]
          rw [hx1] at hone
          simp only [Bool.false_eq_true, if_false] at hone
          split at hone
          · rename_i hall
            simp only [mdraw.one] at hone
            obtain ⟨p, h1, h2⟩ := soft1_sound hm hone
            refine ⟨p, .inl ⟨hw, ?_⟩, ?_⟩
            · rw [if_neg (by unfold lateOf; rw [hall]; simp)]
              rw [← hfe]; exact h1
            · have := ih _ h2
              rw [eget_eput, hfe] at this
              exact this
          · rename_i hall
            simp only [mdraw.one] at hone
            obtain ⟨p, h1, h2⟩ := late1_sound hm hone
            refine ⟨p, .inl ⟨hw, ?_⟩, ?_⟩
            · rw [if_pos (by unfold lateOf; simpa using hall)]
              rw [← hfe]
              refine fun st' hst' => h1 st' fun hu => hst' ?_
              unfold suOf
              rw [hmi]
              simp only [usesSt, hx, Bool.not_false, Bool.and_true, Bool.and_eq_true]
              exact ⟨hu, by simpa using hall⟩
            · have := ih _ h2
              rw [eget_eput, hfe] at this
              exact this
      have skip : pwanted (eget s.env) g = some false → pLex P ops hards (suOf ms ops hards) (finOf ms ops hards) Cl QP (fun f st => ∃ e', (∀ t, eget e' t = f t) ∧ K ⟨e', st⟩) L (fput (eget s.env) o.dst .undef) s.st →
          if hards.contains x.2 = true then
            (pwanted (eget s.env) g = some true ∧ Hard1 P s.st QP o (eget s.env) (fun p st' => (finOf ms ops hards x.2 = false → Cl st') ∧ pLex P ops hards (suOf ms ops hards) (finOf ms ops hards) Cl QP (fun f st => ∃ e', (∀ t, eget e' t = f t) ∧ K ⟨e', st⟩) L (fput (eget s.env) o.dst p) st')) ∨
              (pwanted (eget s.env) g = some false ∧ pLex P ops hards (suOf ms ops hards) (finOf ms ops hards) Cl QP (fun f st => ∃ e', (∀ t, eget e' t = f t) ∧ K ⟨e', st⟩) L (fput (eget s.env) o.dst .undef) s.st)
          else ∃ p, SYields P Cl QP (lateOf ops hards x.2) (suOf ms ops hards x.2) o g (eget s.env) s.st p ∧ pLex P ops hards (suOf ms ops hards) (finOf ms ops hards) Cl QP (fun f st => ∃ e', (∀ t, eget e' t = f t) ∧ K ⟨e', st⟩) L (fput (eget s.env) o.dst p) s.st := by
        intro hw hk
        split
        · exact .inr ⟨hw, hk⟩
        · exact ⟨.undef, .inr ⟨hw, rfl⟩, hk⟩
      have hput : ∀ (t : Nat) (c : Bool), eget s.env t = .bool c → ∀ u, eget (putB s.env t c) u = eget s.env u := by
        intro t c htc u
        unfold putB
        by_cases htu : t = u
        · subst htu; rw [eget_eput_same, htc]
        · rw [eget_eput_ne _ _ _ _ htu]
      simp only [mdraw] at h
      cases g with
      | none =>
        simp only at h
        exact go s.env s.st (fun _ => rfl) rfl h rfl
      | some tw =>
        obtain ⟨t, want⟩ := tw
        simp only at h
        split at h
        · rename_i c hcc
          by_cases hcw : c = want
          · subst hcw
            exact go _ s.st (hput t c hcc) (by simp only [pwanted, hcc]; cases c <;> rfl) (h.1 rfl) rfl
          · have hcn : c = !want := by
              clear go skip hput ih h
              revert hcw
              cases c <;> cases want <;> decide
            refine skip (by simp only [pwanted, hcc, hcn]; cases want <;> rfl) ?_
            have := ih _ (h.2 hcn)
            rw [eget_eput, funext (hput t (!want) (by rw [← hcn]; exact hcc))] at this
            exact this
        · rename_i vs hcc
          refine skip (by simp only [pwanted, hcc]) ?_
          have := ih _ h
          rw [eget_eput] at this
          exact this
        · exact h.elim
    · cases hr

end Go.Pv
