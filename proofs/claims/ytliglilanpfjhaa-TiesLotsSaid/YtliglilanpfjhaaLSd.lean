/- The compact code is met by the model's own: regions in the text's order, control, functions. -/
import Derived.Test.YtliglilanpfjhaaLSc
import Derived.Still
import Derived.RangeFuncRecord
set_option linter.unusedSimpArgs false
namespace Go.Pv
variable {P : Program}

/-! ### Reading the code -/
def convGuard (ops : Array Oper) : Option (Nat × Bool) → Option (Option (Nat × Bool))
  | none => some none
  | some (j, want) =>
    match (ops[j]?).bind (·.dst) with
    | some t => some (some (t, want))
    | none => none
def opPlain : Op → Bool
  | .defer _ | .select .. => false
  | _ => true
/-- How many temporaries; those that are pinned: never written. -/
structure Lim where
  n : Nat
  pn : List Nat
def Lim.ok (N : Lim) (t : Nat) : Prop := t < N.n ∧ t ∉ N.pn
instance (N : Lim) (t : Nat) : Decidable (N.ok t) := inferInstanceAs (Decidable (_ ∧ _))
def convInsts (P : Program) (N : Lim) (ops : Array Oper) : List Oper → Option (List MInst)
  | [] => some []
  | o :: rest =>
    match convGuard ops o.guard, convOp P o.op, convInsts P N ops rest with
    | some g, some m, some ms => if (o.dst.all fun d => decide (N.ok d)) && opPlain o.op then some (⟨o.dst, g, m⟩ :: ms) else none
    | _, _, _ => none

/-- Slots that live on behind a region: those that some region, test or result reads ahead of a write of its own. -/
def keepOps (seen : List Nat) : List Oper → List Nat
  | [] => []
  | o :: rest =>
    (o.op.operands.toList.filterMap fun | .tmp t => if seen.contains t then none else some t | _ => none) ++ keepOps (o.dst.toList ++ seen) rest
def keepCode : Code → List Nat
  | .region _ ops _ => keepOps [] ops.toList
  | .seq a b => keepCode a ++ keepCode b
  | .cond c a b => (match c with | .tmp t => [t] | _ => []) ++ keepCode a ++ keepCode b
  | .block _ c | .loop c | .scope c => keepCode c
  | .rangeFunc f _ a b => (match f with | .tmp t => [t] | _ => []) ++ keepCode a ++ keepCode b
  | _ => []
def killOf (keep : List Nat) (ops : Array Oper) : List Nat := ops.toList.filterMap fun o => o.dst.bind fun d => if keep.contains d then none else some d

/-! The order in which a region that draws is walked. -/
def isVal : MOp → Bool
  | .val _ => true
  | _ => false
def isCall : MOp → Bool
  | .call .. => true
  | _ => false
def ancNew (seen : List Nat) (o : Oper) : List Nat := (o.after.toList.filter fun e => Region.binds .any e && !seen.contains e.on).map (·.on)
/-- What comes ahead of these. -/
def ancs (ops : Array Oper) : Nat → List Nat → List Nat → List Nat
  | 0, _, seen => seen
  | _ + 1, [], seen => seen
  | fuel + 1, h :: work, seen =>
    match ops[h]? with
    | some o => ancs ops fuel (ancNew seen o ++ work) (ancNew seen o ++ seen)
    | none => ancs ops fuel work seen
/-- Must i come ahead of h? -/
def ancB (ops : Array Oper) (fuel i h : Nat) : Bool := (ancs ops (8 * fuel + 8) [h] []).contains i
def drawOrder (ops : Array Oper) (ms : List MOp) : Nat → Array Bool → Option (List (Bool × Nat))
  | 0, _ => some []
  | fuel + 1, listed =>
    let rs := Region.ready .any ops listed
    match rs.find? fun i => ((ms[i]?).map isVal).getD false with
    | some i => (drawOrder ops ms fuel (listed.setIfInBounds i true)).map ((false, i) :: ·)
    | none =>
      match rs with
      | [] => some []
      | [i] => (drawOrder ops ms fuel (listed.setIfInBounds i true)).map ((true, i) :: ·)
      | _ =>
        match rs.find? fun j => ((ms[j]?).map isCall).getD false with
        | some i => (drawOrder ops ms fuel (listed.setIfInBounds i true)).map ((false, i) :: ·)
        | none => none
/-- Is the order one that the region allows, each operation free at its turn, and those that write alone at theirs? 'hards': all that write. -/
def orderOK (ops : Array Oper) (hards : List Nat) : List (Bool × Nat) → Array Bool → Bool
  | [], listed => (Region.ready .any ops listed).isEmpty
  | (h, i) :: l, listed =>
    (if h then (Region.ready .any ops listed) == [i] else !hards.contains i && (Region.ready .any ops listed).contains i && Region.free .any ops listed i) && orderOK ops hards l (listed.setIfInBounds i true)
def usesSt (m : MInst) : Bool :=
  match m.op with
  | .val v => usesStore v
  | _ => true
/-- Does i read the store, at whatever turn? -/
def suOf (ms : List MInst) (ops : Array Oper) (hards : List Nat) (i : Nat) : Bool :=
  match ms[i]? with
  | some m => usesSt m && !hards.contains i && !(hards.all fun h => ancB ops ops.size i h)
  | none => false
/-- Has all that reads the store at whatever turn come up when j does? -/
def finOf (ms : List MInst) (ops : Array Oper) (hards : List Nat) (j : Nat) : Bool :=
  match ms[j]? with
  | some m => m.dst.isNone && (List.range ms.length).all fun i => !suOf ms ops hards i || ancB ops ops.size i j
  | none => false
def flagOf (ms : List MInst) (ops : Array Oper) (hards : List Nat) (x : Bool × Nat) : DFlag :=
  if x.1 then (if finOf ms ops hards x.2 then .last else .hard) else if hards.all fun h => ancB ops ops.size x.2 h then .early else .late
def pickInsts (ms : List MInst) (ops : Array Oper) (hards : List Nat) : List (Bool × Nat) → Option (List (DFlag × MInst))
  | [] => some []
  | x :: l =>
    match ms[x.2]?, pickInsts ms ops hards l with
    | some m, some r => some ((flagOf ms ops hards x, m) :: r)
    | _, _ => none

/-- No range over a function in it. -/
def noRF : Code → Bool
  | .seq a b | .cond _ a b => noRF a && noRF b
  | .block _ c | .loop c | .scope c => noRF c
  | .rangeFunc .. => false
  | _ => true
def convCode (P : Program) (N : Lim) (keep : List Nat) : Code → Option MCode
  | .skip | .label _ => some .skip
  | .region _ ops false => (convInsts P N ops ops.toList).map fun l => .region l (killOf keep ops)
  | .region _ ops true =>
    match convInsts P N ops ops.toList with
    | some l =>
      match drawOrder ops (l.map (·.op)) ops.size (Array.replicate ops.size false) with
      | some L =>
        let hards := (L.filter (·.1)).map (·.2)
        match pickInsts l ops hards L with
        | some r => if orderOK ops hards L (Array.replicate ops.size false) && Region.noSelect ops && L.length == ops.size then some (.draw (r.any fun x => x.1 == .late) r (killOf keep ops)) else none
        | none => none
      | none => none
    | none => none
  | .seq a b =>
    match convCode P N keep a, convCode P N keep b with
    | some a, some b => some (.seq a b)
    | _, _ => none
  | .cond c a b =>
    match convX c, convCode P N keep a, convCode P N keep b with
    | some c, some a, some b => some (.cond c a b)
    | _, _, _ => none
  | .block id c => (convCode P N keep c).map (.block id)
  | .loop c => (convCode P N keep c).map .loop
  | .scope c => convCode P N keep c
  | .rangeFunc f ps a b =>
    match convX f, convCode P N keep a, convCode P N keep b with
    | some f, some ma, some mb => if (noRF a && noRF b) && ps.toList.all (fun t => decide (t < N.n)) then some (.rangeFunc f ps.toList ma mb) else none
    | _, _, _ => none
  | .exit id => some (.exit id)
  | .ret => some .ret
  | _ => none

/-! ### What the code asks -/
/-- A loop's record bears this code. -/
def LoopKey.Conv (P : Program) (key : LoopKey) (params : List Nat) (a b : MCode) : Prop :=
  key.params.toList = params ∧ (∀ t ∈ params, t < key.N) ∧ noRF key.assign = true ∧ noRF key.body = true ∧ ∃ N keep, N.n = key.N ∧ convCode P N keep key.assign = some a ∧ convCode P N keep key.body = some b
/-- The function that was ranged over has ended. -/
def rangeEnd (l : Nat) (Q : MPost) (e : Env) : PEnd → Store → Prop
  | .ret _, st =>
    match sget st l with
    | some (.loop _ _ state pend) => state ≠ .busy ∧
        match pend with
        | none => Q .normal ⟨e, sdel l st⟩
        | some .ret => Q .ret ⟨e, sdel l st⟩
        | some (.exit id) => Q (.exit id) ⟨e, sdel l st⟩
        | _ => False
    | _ => False
  | .panic p, st => panicPost Q p st
def mwp (P : Program) : MCode → MPost → PS → Prop
  | .skip, Q, s => Q .normal s
  | .region l ks, Q, s => mops P l s (fun s' => Q .normal ⟨ekill ks s'.env, s'.st⟩) (panicPost Q)
  | .draw true l ks, Q, s => ∃ Cl : Store → Prop, Cl s.st ∧ mdraw P Cl l s (fun s' => Q .normal ⟨ekill ks s'.env, s'.st⟩) (panicPost Q)
  | .draw false l ks, Q, s => mdraw P (fun _ => True) l s (fun s' => Q .normal ⟨ekill ks s'.env, s'.st⟩) (panicPost Q)
  | .seq a b, Q, s => mwp P a (mthen (mwp P b Q) Q) s
  | .cond c a b, Q, s =>
    match meval s.env c with
    | .val (.bool t) => (t = true → mwp P a Q s) ∧ (t = false → mwp P b Q s)
    | _ => False
  | .block id c, Q, s => mwp P c (minBlock id Q) s
  | .loop c, Q, s => LoopInv View (mwp P c) Q s
  | .rangeFunc g params a b, Q, s =>
    match meval s.env g with
    | .func (.func f) fs cs => Enters P f ∧ ∀ key : LoopKey, key.Conv P params a b → ∀ l, snew s.st l →
        PCalls P f (fs ++ [.func (.yield l) [] []] ++ cs) ((l, .loop key s.env .ready none) :: s.st) (rangeEnd l Q s.env)
    | _ => False
  | .exit id, Q, s => Q (.exit id) s
  | .ret, Q, s => Q .ret s
/-- The values of a round laid into its temporaries. -/
def eputs : Env → List Nat → List PV → Env
  | e, t :: ts, p :: ps => eputs (eput e (some t) p) ts ps
  | e, _, _ => e
/-- A round's body has been left. -/
def roundB (l : Nat) (Q : PEnd → Store → Prop) : MPost
  | .normal, s =>
    match sget s.st l with
    | some (.loop key e _ _) => Q (.ret (.bool true)) (sset s.st l (.loop key e .ready none))
    | _ => False
  | .ret, s =>
    match sget s.st l with
    | some (.loop key e _ _) => Q (.ret (.bool false)) (sset s.st l (.loop key e .done (some .ret)))
    | _ => False
  | .exit id, s =>
    match sget s.st l with
    | some (.loop key e _ _) => Q (.ret (.bool false)) (sset s.st l (.loop key e .done (some (.exit id))))
    | _ => False
  | .panic _, _ => False
/-- A round's values have been assigned. -/
def roundA (P : Program) (l : Nat) (b : MCode) (Q : PEnd → Store → Prop) : MPost
  | .normal, s =>
    match sget s.st l with
    | some (.loop key e .ready pend) => mwp P b (roundB l Q) ⟨s.env, sset s.st l (.loop key e .busy pend)⟩
    | _ => False
  | _, _ => False

/-! ### States -/
/-- What stays of an activation: its deferred calls but for the marks of ranges over functions; slots that are not written; the immutable part at its beginning. -/
structure Fix where
  defers : List Deferred
  pins : List (Nat × Value)
  imm : Imm
  noMarks : Bool
def notMark (d : Deferred) : Bool :=
  match d.target with
  | .collected _ => false
  | _ => true
def markOf (d : Deferred) : Option Nat :=
  match d.target with
  | .collected r => some r
  | _ => none
structure Fix.Holds (D : Fix) (N : Lim) (I : Imm) (a : Act) : Prop where
  imm : D.imm.le I
  defers : a.defers.filter notMark = D.defers
  marks : ∀ r ∈ a.defers.filterMap markOf, D.imm r = none ∧ I r = some (.deferred (some []))
  nodup : (a.defers.filterMap markOf).Nodup
  none : D.noMarks = true → a.defers.filterMap markOf = []
  pins : ∀ q ∈ D.pins, q.1 ∈ N.pn ∧ a.tmps.getD q.1 undef = q.2
theorem Fix.Holds.mono {D : Fix} {N : Lim} {I I' : Imm} {a : Act} (h : D.Holds N I a) (hI : I.le I') : D.Holds N I' a :=
  ⟨Imm.le_trans h.imm hI, h.defers, fun r hr => ⟨(h.marks r hr).1, hI _ _ (h.marks r hr).2⟩, h.nodup, h.none, h.pins⟩
theorem Fix.Holds.put {D : Fix} {N : Lim} {I : Imm} {a : Act} (h : D.Holds N I a) {d : Option Nat} (hd : ∀ t, d = some t → N.ok t) (v : Value) : D.Holds N I (a.put d v) := by
  cases d with
  | none => exact h
  | some t =>
    refine ⟨h.imm, h.defers, h.marks, h.nodup, h.none, fun q hq => ⟨(h.pins q hq).1, ?_⟩⟩
    have hne : t ≠ q.1 := fun e => (hd t rfl).2 (e ▸ (h.pins q hq).1)
    have : (a.put (some t) v).tmps.getD q.1 undef = a.tmps.getD q.1 undef := by
      simp [Act.put, Array.getElem?_setIfInBounds, hne]
    rw [this]
    exact (h.pins q hq).2
structure Rel (N : Lim) (D : Fix) (I : Imm) (s : PS) (a : Act) (w : World) : Prop where
  env : ∀ t, vrep I (eget s.env t) (a.tmps.getD t undef)
  size : a.tmps.size = N.n
  fix : D.Holds N I a
  st : SRep I s.st w

theorem Rel.put {N : Lim} {D : Fix} {I I' : Imm} {e : Env} {st st' : Store} {a : Act} {w w' : World} (h : Rel N D I ⟨e, st⟩ a w) (hI : I.le I') (hs : SRep I' st' w') {d : Option Nat}
    (hd : ∀ t, d = some t → N.ok t) {p : PV} {v : Value} (hv : d ≠ none → vrep I' p v) : Rel N D I' ⟨eput e d p, st'⟩ (a.put d v) w' := by
  cases d with
  | none => exact ⟨fun t => vrep_mono hI _ _ (h.env t), h.size, h.fix.mono hI, hs⟩
  | some t =>
    refine ⟨fun u => ?_, by simp [Act.put, h.size], (h.fix.mono hI).put hd v, hs⟩
    have hlt : t < a.tmps.size := by rw [h.size]; exact (hd t rfl).1
    by_cases htu : t = u
    · subst htu
      simp only [eget_eput_same]
      have : (a.put (some t) v).tmps.getD t undef = v := by simp [Act.put, hlt]
      rw [this]
      exact hv (by simp)
    · simp only [eget_eput_ne _ _ _ _ htu]
      have : (a.put (some t) v).tmps.getD u undef = a.tmps.getD u undef := by
        simp [Act.put, Array.getElem?_setIfInBounds, htu]
      rw [this]
      exact vrep_mono hI _ _ (h.env u)

theorem Rel.x {N : Lim} {D : Fix} {I : Imm} {s : PS} {a : Act} {w : World} (h : Rel N D I s a w) {x : Operand} {m : MX} (hm : convX x = some m) : vrep I (meval s.env m) (a.eval x) := by
  cases x with
  | tmp t => simp only [convX, Option.some.injEq] at hm; subst hm; exact h.env t
  | const v =>
    simp only [convX] at hm
    split at hm
    · rename_i hc
      simp only [Option.some.injEq] at hm; subst hm; exact pvOf_spec hc
    · cases hm
  | global g =>
    simp only [convX, Option.some.injEq] at hm
    subst hm
    simp only [meval, Act.eval, vrep]
  | func f =>
    simp only [convX, Option.some.injEq] at hm
    subst hm
    simp only [meval, Act.eval, vrep]
    exact ⟨[], [], rfl, by simp [vreps], by simp [vreps]⟩
theorem Rel.xs {N : Lim} {D : Fix} {I : Imm} {s : PS} {a : Act} {w : World} (h : Rel N D I s a w) (l : List Operand) : XRep I (meval s.env) a.eval l := fun _ _ _ hm => h.x hm

theorem Rel.weaken {N : Lim} {D : Fix} {I : Imm} {e e' : Env} {st : Store} {a : Act} {w : World} (h : Rel N D I ⟨e, st⟩ a w) (he : ∀ t, eget e' t = .any ∨ eget e' t = eget e t) : Rel N D I ⟨e', st⟩ a w :=
  ⟨fun t => by rcases he t with h1 | h1 <;> rw [h1]; (· simp only [vrep]); exact h.env t, h.size, h.fix, h.st⟩

theorem Rel.guard {N : Lim} {D : Fix} {I : Imm} {e : Env} {st : Store} {a : Act} {w : World} (h : Rel N D I ⟨e, st⟩ a w) {t : Nat} {c : Bool} (ht : eget e t = .bool c) : Rel N D I ⟨putB e t c, st⟩ a w := by
  refine h.weaken fun u => .inr ?_
  unfold putB
  by_cases htu : t = u
  · subst htu; rw [eget_eput_same, ht]
  · rw [eget_eput_ne _ _ _ _ htu]

/-- From a beginning (I, w): a state of R is held. -/
def HRel (N : Lim) (D : Fix) (I0 : Imm) (w0 : World) (R : PS → Prop) (a : Act) (w : World) : Prop :=
  ∃ I s, I0.le I ∧ Calm w0 w ∧ Rel N D I s a w ∧ R s
def HPan (I0 : Imm) (w0 : World) (QP : PV → Store → Prop) (chain : List PanicEntry) (w : World) : Prop :=
  ∃ v, chain = [{ v, recovered := false }] ∧ Held I0 w0 (fun I st => ∃ p, vrep I p v ∧ QP p st) w
/-- The same; what stays of the activation is as it was. -/
def HPanA (N : Lim) (D : Fix) (I0 : Imm) (w0 : World) (QP : PV → Store → Prop) (chain : List PanicEntry) (a : Act) (w : World) : Prop :=
  ∃ v, chain = [{ v, recovered := false }] ∧ Held I0 w0 (fun I st => D.Holds N I a ∧ ∃ p, vrep I p v ∧ QP p st) w

/-- A pure post as one of the model's. -/
def lift (N : Lim) (D : Fix) (I0 : Imm) (w0 : World) (Q : MPost) : Exit → Act → World → Prop
  | .normal, a, w => HRel N D I0 w0 (Q .normal) a w
  | .exit id, a, w => HRel N D I0 w0 (Q (.exit id)) a w
  | .ret, a, w => HRel N D I0 w0 (Q .ret) a w
  | .panic chain, a, w => HPanA N D I0 w0 (panicPost Q) chain a w
  | _, _, _ => False

theorem HRel.from {N : Lim} {D : Fix} {I0 I1 : Imm} {w0 w1 : World} {R : PS → Prop} {a : Act} {w : World} (hI : I0.le I1) (hw : Calm w0 w1) (h : HRel N D I1 w1 R a w) : HRel N D I0 w0 R a w := by
  obtain ⟨I, s, h1, h2, h3, h4⟩ := h
  exact ⟨I, s, Imm.le_trans hI h1, hw.trans h2, h3, h4⟩
theorem HPan.from {I0 I1 : Imm} {w0 w1 : World} {QP : PV → Store → Prop} {ch : List PanicEntry} {w : World} (hI : I0.le I1) (hw : Calm w0 w1) (h : HPan I1 w1 QP ch w) : HPan I0 w0 QP ch w := by
  obtain ⟨v, h0, I, st, h1, h2, h3⟩ := h
  exact ⟨v, h0, I, st, Imm.le_trans hI h1, hw.trans h2, h3⟩
theorem HPan.act {N : Lim} {D : Fix} {I0 I1 : Imm} {w0 w1 : World} {QP : PV → Store → Prop} {ch : List PanicEntry} {a : Act} {w : World} (hI : I0.le I1) (hw : Calm w0 w1) (hd : D.Holds N I1 a) (h : HPan I1 w1 QP ch w) : HPanA N D I0 w0 QP ch a w := by
  obtain ⟨v, h0, I, st, h1, h2, h3, p, h4, h5⟩ := h
  exact ⟨v, h0, I, st, Imm.le_trans hI h1, hw.trans h2, h3, hd.mono h1, p, h4, h5⟩
theorem HPanA.from {N : Lim} {D : Fix} {I0 I1 : Imm} {w0 w1 : World} {QP : PV → Store → Prop} {ch : List PanicEntry} {a : Act} {w : World} (hI : I0.le I1) (hw : Calm w0 w1) (h : HPanA N D I1 w1 QP ch a w) : HPanA N D I0 w0 QP ch a w := by
  obtain ⟨v, h0, I, st, h1, h2, h3⟩ := h
  exact ⟨v, h0, I, st, Imm.le_trans hI h1, hw.trans h2, h3⟩
theorem lift_from {N : Lim} {D : Fix} {I0 I1 : Imm} {w0 w1 : World} {Q : MPost} (hI : I0.le I1) (hw : Calm w0 w1) (e : Exit) (a : Act) (w : World) (h : lift N D I1 w1 Q e a w) : lift N D I0 w0 Q e a w := by
  cases e <;> simp only [lift] at h ⊢ <;> first | exact h | exact HRel.from hI hw h | exact HPanA.from hI hw h

/-- The fences that are used: every function, no depth, a round or none. -/
structure Wide (F : Fence) : Prop where
  fn : ∀ f, F.fn f
  depth : F.depth = none
  alive : F.alive = false

theorem Wide.fenced {F : Fence} (h : Wide F) (mm : Machine) : Machine.fenced P F mm := by
  intro g _
  exact ⟨fun hx => (by rw [h.alive] at hx; cases hx), .inl (h.fn _), fun f _ => h.fn f, fun d hd => by rw [h.depth] at hd; cases hd⟩

theorem Wide.calls {F : Fence} (h : Wide F) {n : Nat} {g : FuncId} {args : Array Value} {w : World} {R : Ending → World → Prop} (hc : Calls P g args w R) : CallsIn F n P g args w R :=
  ⟨h.fn g, fun cs _ => by
    obtain ⟨en, w2, fr, hR, hc, h6, h7⟩ := hc cs
    refine ⟨en, w2, fr, hR, ?_, h6, h7⟩
    cases en with
    | returned v => exact (StepsIn.of_steps hc).mono (fun mm _ => h.fenced mm)
    | panicked ch => exact (StepsIn.of_steps hc).mono (fun mm _ => h.fenced mm)
    | outgrown => exact hc⟩
theorem Wide.round {F : Fence} (h : Wide F) {n m : Nat} {l : Nat} {f : FuncId} {tmps : Array Value} {assign body : Code} {w : World} {R : Ending → World → Prop} (hr : RoundIn Fence.wide n P l f tmps assign body w R) : RoundIn F m P l f tmps assign body w R :=
  ⟨h.fn f, fun c cs _ => by
    obtain ⟨e, w', r, s⟩ := hr.2 c cs (room_wide _)
    refine ⟨e, w', r, ?_⟩
    cases e with
    | returned v => exact StepsIn.mono (fun mm _ => h.fenced mm) s
    | panicked ch => exact StepsIn.mono (fun mm _ => h.fenced mm) s
    | outgrown => exact s⟩
/-- One operation. -/
theorem oper_sound {F : Fence} {n : Nat} (hF : Wide F) {N : Lim} {D : Fix} {o : Oper} {m : MOp} (hm : convOp P o.op = some m) (hdf : ∀ c, o.op ≠ .defer c) (hd : ∀ t, o.dst = some t → N.ok t)
    {I : Imm} {e : Env} {st : Store} {a : Act} {w : World} (hr : Rel N D I ⟨e, st⟩ a w) {K : PS → Prop} {QP : PV → Store → Prop}
    (hk : mop P m (meval e) st (fun p st' => K ⟨eput e o.dst p, st'⟩) QP)
    {next : Act → World → Prop} {Q : Exit → Act → World → Prop} (hnext : ∀ a' w', HRel N D I w K a' w' → next a' w')
    (hpan : ∀ ch w', HPan I w QP ch w' → Q (.panic ch) a w') : o.wpIn F n P a w next Q := by
  refine ⟨fun f _ => hF.fn f, ?_⟩
  rw [Oper.semAt_eq F.round a.eval o hdf]
  have h := op_sound (fun _ => rfl) hm hk hr.st (hr.xs _)
  generalize (execOp a.eval o).run P w = r at h
  cases r with
  | ok x w' =>
    cases x <;> simp only [UponR] at h <;> simp only [Oper.uponIn]
    case value v =>
      obtain ⟨I', st', h1, h2, h3, p, h4, h5⟩ := h
      exact hnext _ _ ⟨I', _, h1, h2, hr.put h1 h3 hd (fun _ => h4), h5⟩
    case skip =>
      obtain ⟨I', st', h1, h2, h3, h5⟩ := h
      exact hnext _ _ ⟨I', _, h1, h2, hr.put h1 h3 hd (fun _ => by simp only [vrep]), h5⟩
    case enter g args =>
      obtain ⟨ps, st1, I1, h1, h2, h3, vs, rfl, h4, h5⟩ := h
      refine ⟨fun hx => (by rw [hF.depth] at hx; simp at hx), hF.fn _, fun cs hroom => ?_⟩
      obtain ⟨en, w2, fr, hR, hc, h6, h7⟩ := h5.out I1 w' vs h3 h4 cs
      refine ⟨en, w2, fr, ?_, ?_, h6, h7⟩
      · obtain ⟨I', st', g1, g2, g3, pe, g4, g5⟩ := hR
        cases pe with
        | ret p =>
          simp only [erep] at g4
          obtain ⟨v, rfl, g6⟩ := g4
          simp only [endPost] at g5
          exact hnext _ _ ⟨I', _, Imm.le_trans h1 g1, h2.trans g2, hr.put (Imm.le_trans h1 g1) g3 hd (fun _ => g6), g5⟩
        | panic p =>
          simp only [erep] at g4
          obtain ⟨v, rfl, g6⟩ := g4
          simp only [endPost] at g5
          exact hpan _ _ ⟨v, rfl, I', st', Imm.le_trans h1 g1, h2.trans g2, g3, p, g6, g5⟩
      · have hall : ∀ mm : Machine, Machine.fenced P F mm := hF.fenced
        cases en with
        | returned v => exact (StepsIn.of_steps hc).mono (fun mm _ => hall mm)
        | panicked ch => exact (StepsIn.of_steps hc).mono (fun mm _ => hall mm)
        | outgrown => exact hc
    case round l f tmps assign body =>
      refine ⟨fun hx => (by rw [hF.depth] at hx; simp at hx), (hF.round h).mono fun en w2 hR => ?_⟩
      obtain ⟨I', st', g1, g2, g3, pe, g4, g5⟩ := hR
      cases pe with
      | ret p =>
        simp only [erep] at g4
        obtain ⟨v, rfl, g6⟩ := g4
        simp only [endPost] at g5
        exact hnext _ _ ⟨I', _, g1, g2, hr.put g1 g3 hd (fun _ => g6), g5⟩
      | panic p =>
        simp only [erep] at g4
        obtain ⟨v, rfl, g6⟩ := g4
        simp only [endPost] at g5
        exact hpan _ _ ⟨v, rfl, I', st', g1, g2, g3, p, g6, g5⟩
  | halt x w' =>
    cases x <;> simp only [UponR] at h <;> simp only [Oper.uponIn]
    case panic v =>
      obtain ⟨I', st', h1, h2, h3, p, h4, h5⟩ := h
      exact hpan _ _ ⟨v, rfl, I', st', h1, h2, h3, p, h4, h5⟩

end Go.Pv
