/- The compact code is met by the model's own: regions in the text's order, control, functions. -/
import Derived.Test.YtmlmoaimjifpgaaGreatLSc
import Derived.Still
import Derived.RangeFuncRecord
set_option linter.unusedSimpArgs false
namespace Go.Pv
variable {P : Program}
def q6z (ops : Array Oper) : Option (Nat × Bool) → Option (Option (Nat × Bool))
 | none => some none
 | some (j, want) =>
  match (ops[j]?).bind (·.dst) with
  | some t => some (some (t, want))
  | none => none
def j9n : Op → Bool
 | .defer _ | .select .. => false
 | _ => true
structure Lim where
 n : Nat
 pn : List Nat
def Lim.ok (N : Lim) (t : Nat) : Prop := t < N.n ∧ t ∉ N.pn
instance (N : Lim) (t : Nat) : Decidable (N.ok t) := inferInstanceAs (Decidable (_ ∧ _))
def q60 (P : Program) (N : Lim) (ops : Array Oper) : List Oper → Option (List MInst)
 | [] => some []
 | o :: rest =>
  match q6z ops o.guard, k1z P o.op, q60 P N ops rest with
  | some g, some m, some ms => if (o.dst.all fun d => decide (N.ok d)) && j9n o.op then some (⟨o.dst, g, m⟩ :: ms) else none
  | _, _, _ => none
def j2j (seen : List Nat) : List Oper → List Nat
 | [] => []
 | o :: rest =>
  (o.op.operands.toList.filterMap fun | .tmp t => if seen.contains t then none else some t | _ => none) ++ j2j (o.dst.toList ++ seen) rest
def q8s : Code → List Nat
 | .region _ ops _ => j2j [] ops.toList
 | .seq a b => q8s a ++ q8s b
 | .cond c a b => (match c with | .tmp t => [t] | _ => []) ++ q8s a ++ q8s b
 | .block _ c | .loop c | .scope c => q8s c
 | .rangeFunc f _ a b => (match f with | .tmp t => [t] | _ => []) ++ q8s a ++ q8s b
 | _ => []
def k4w (keep : List Nat) (ops : Array Oper) : List Nat := ops.toList.filterMap fun o => o.dst.bind fun d => if keep.contains d then none else some d
def y3g : MOp → Bool
 | .val _ => true
 | _ => false
def j71 : MOp → Bool
 | .call .. => true
 | _ => false
def j2k (seen : List Nat) (o : Oper) : List Nat := (o.after.toList.filter fun e => Region.binds .any e && !seen.contains e.on).map (·.on)
def j9o (ops : Array Oper) : Nat → List Nat → List Nat → List Nat
 | 0, _, seen => seen
 | _ + 1, [], seen => seen
 | fuel + 1, h :: work, seen =>
  match ops[h]? with
  | some o => j9o ops fuel (j2k seen o ++ work) (j2k seen o ++ seen)
  | none => j9o ops fuel work seen
def j72 (ops : Array Oper) (fuel i h : Nat) : Bool := (j9o ops (8 * fuel + 8) [h] []).contains i
def k0o (ops : Array Oper) (ms : List MOp) : Nat → Array Bool → Option (List (Bool × Nat))
 | 0, _ => some []
 | fuel + 1, listed =>
  let rs := Region.ready .any ops listed
  match rs.find? fun i => ((ms[i]?).map y3g).getD false with
  | some i => (k0o ops ms fuel (listed.setIfInBounds i true)).map ((false, i) :: ·)
  | none =>
   match rs with
   | [] => some []
   | [i] => (k0o ops ms fuel (listed.setIfInBounds i true)).map ((true, i) :: ·)
   | _ =>
    match rs.find? fun j => ((ms[j]?).map j71).getD false with
    | some i => (k0o ops ms fuel (listed.setIfInBounds i true)).map ((false, i) :: ·)
    | none => none
def k1b (ops : Array Oper) (hards : List Nat) : List (Bool × Nat) → Array Bool → Bool
 | [], listed => (Region.ready .any ops listed).isEmpty
 | (h, i) :: l, listed =>
  (if h then (Region.ready .any ops listed) == [i] else !hards.contains i && (Region.ready .any ops listed).contains i && Region.free .any ops listed i) && k1b ops hards l (listed.setIfInBounds i true)
def z86 (ops : Array Oper) (ms : List MOp) : Nat → Array Bool → Option (List (Bool × Nat) × List (Bool × Nat) × List (Bool × Nat))
 | 0, _ => none
 | fuel + 1, listed =>
  let rs := Region.ready .any ops listed
  let soft := match rs.find? fun i => ((ms[i]?).map y3g).getD false with
   | some i => some i
   | none => rs.find? fun j => ((ms[j]?).map j71).getD false
  match soft with
  | some i => (z86 ops ms fuel (listed.setIfInBounds i true)).map fun q => ((false, i) :: q.1, q.2)
  | none =>
   match rs with
   | [i, j] =>
    match k0o ops ms fuel (listed.setIfInBounds i true), k0o ops ms fuel (listed.setIfInBounds j true) with
    | some A, some B => some ([], (true, i) :: A, (true, j) :: B)
    | _, _ => none
   | _ => none
def z30 (ops : Array Oper) (hards : List Nat) (La Lb : List (Bool × Nat)) : List (Bool × Nat) → Array Bool → Bool
 | [], listed =>
  match La, Lb with
  | (true, i) :: A, (true, j) :: B => (Region.ready .any ops listed) == [i, j] && k1b ops hards A (listed.setIfInBounds i true) && k1b ops hards B (listed.setIfInBounds j true)
  | _, _ => false
 | (h, i) :: l, listed =>
  !h && !hards.contains i && (Region.ready .any ops listed).contains i && Region.free .any ops listed i && z30 ops hards La Lb l (listed.setIfInBounds i true)
def j73 (m : MInst) : Bool :=
 match m.op with
 | .val v => q8y v
 | _ => true
def z6h (ms : List MInst) (ops : Array Oper) (hards : List Nat) (i : Nat) : Bool :=
 match ms[i]? with
 | some m => j73 m && !hards.contains i && !(hards.all fun h => j72 ops ops.size i h)
 | none => false
def k3k (ms : List MInst) (ops : Array Oper) (hards : List Nat) (j : Nat) : Bool :=
 match ms[j]? with
 | some m => m.dst.isNone && (List.range ms.length).all fun i => !z6h ms ops hards i || j72 ops ops.size i j
 | none => false
def j2l (ms : List MInst) (ops : Array Oper) (hards : List Nat) (x : Bool × Nat) : DFlag :=
 if x.1 then (if k3k ms ops hards x.2 then .last else .hard) else if hards.all fun h => j72 ops ops.size x.2 h then .early else .late
def q8z (ms : List MInst) (ops : Array Oper) (hards : List Nat) : List (Bool × Nat) → Option (List (DFlag × MInst))
 | [] => some []
 | x :: l =>
  match ms[x.2]?, q8z ms ops hards l with
  | some m, some r => some ((j2l ms ops hards x, m) :: r)
  | _, _ => none
def k9m : Code → Bool
 | .seq a b | .cond _ a b => k9m a && k9m b
 | .block _ c | .loop c | .scope c => k9m c
 | .rangeFunc .. => false
 | _ => true
def q5y (P : Program) (N : Lim) (keep : List Nat) : Code → Option MCode
 | .skip | .label _ => some .skip
 | .region _ ops false => (q60 P N ops ops.toList).map fun l => .region l (k4w keep ops)
 | .region _ ops true =>
  match q60 P N ops ops.toList with
  | some l =>
   match k0o ops (l.map (·.op)) ops.size (Array.replicate ops.size false) with
   | some L =>
    let hards := (L.filter (·.1)).map (·.2)
    match q8z l ops hards L with
    | some r => if k1b ops hards L (Array.replicate ops.size false) && Region.noSelect ops && L.length == ops.size then some (.draw (r.any fun x => x.1 == .late) r (k4w keep ops)) else none
    | none => none
   | none =>
    match z86 ops (l.map (·.op)) ops.size (Array.replicate ops.size false) with
    | some (Lp, La, Lb) =>
     let hards := ((Lp ++ La).filter (·.1)).map (·.2)
     match q8z l ops hards Lp, q8z l ops hards La, q8z l ops hards Lb with
     | some rp, some ra, some rb =>
      if z30 ops hards La Lb Lp (Array.replicate ops.size false) && Region.noSelect ops && Lp.length + La.length == ops.size && Lb.length == La.length && (Lp ++ La ++ Lb).all (fun x => hards.contains x.2 == x.1)
      then some (.draw2 rp ra rb (k4w keep ops)) else none
     | _, _, _ => none
    | none => none
  | none => none
 | .seq a b =>
  match q5y P N keep a, q5y P N keep b with
  | some a, some b => some (.seq a b)
  | _, _ => none
 | .cond c a b =>
  match q5t c, q5y P N keep a, q5y P N keep b with
  | some c, some a, some b => some (.cond c a b)
  | _, _, _ => none
 | .block id c => (q5y P N keep c).map (.block id)
 | .loop c => (q5y P N keep c).map .loop
 | .scope c => q5y P N keep c
 | .rangeFunc f ps a b =>
  match q5t f, q5y P N keep a, q5y P N keep b with
  | some f, some ma, some mb => if (k9m a && k9m b) && ps.toList.all (fun t => decide (t < N.n)) then some (.rangeFunc f ps.toList ma mb) else none
  | _, _, _ => none
 | .exit id => some (.exit id)
 | .ret => some .ret
 | _ => none
def LoopKey.Conv (P : Program) (key : LoopKey) (params : List Nat) (a b : MCode) : Prop :=
 key.params.toList = params ∧ (∀ t ∈ params, t < key.N) ∧ k9m key.assign = true ∧ k9m key.body = true ∧ ∃ N keep, N.n = key.N ∧ q5y P N keep key.assign = some a ∧ q5y P N keep key.body = some b
def k3b (l : Nat) (Q : q6w) (e : Env) : PEnd → q43 → Prop
 | .ret _, st =>
  match q5p st l with
  | some (.loop _ _ state pend) => state ≠ .busy ∧
    match pend with
    | none => Q .normal ⟨e, k1x l st⟩
    | some .ret => Q .ret ⟨e, k1x l st⟩
    | some (.exit id) => Q (.exit id) ⟨e, k1x l st⟩
    | _ => False
  | _ => False
 | .panic p, st => q6j Q p st
def mwp (P : Program) : MCode → q6w → PS → Prop
 | .skip, Q, s => Q .normal s
 | .region l ks, Q, s => z3p P l s (fun s' => Q .normal ⟨q76 ks s'.env, s'.st⟩) (q6j Q)
 | .draw true l ks, Q, s => ∃ Cl : q43 → Prop, Cl s.st ∧ mdraw P Cl l s (fun s' => Q .normal ⟨q76 ks s'.env, s'.st⟩) (q6j Q)
 | .draw false l ks, Q, s => mdraw P (fun _ => True) l s (fun s' => Q .normal ⟨q76 ks s'.env, s'.st⟩) (q6j Q)
 | .draw2 pre a b ks, Q, s => ∃ Cl : q43 → Prop, Cl s.st ∧ mdraw P Cl pre s (fun s1 => mdraw P Cl a s1 (fun s' => Q .normal ⟨q76 ks s'.env, s'.st⟩) (q6j Q) ∧ mdraw P Cl b s1 (fun s' => Q .normal ⟨q76 ks s'.env, s'.st⟩) (q6j Q)) (q6j Q)
 | .seq a b, Q, s => mwp P a (j0d (mwp P b Q) Q) s
 | .cond c a b, Q, s =>
  match q5u s.env c with
  | .val (.bool t) => (t = true → mwp P a Q s) ∧ (t = false → mwp P b Q s)
  | _ => False
 | .block id c, Q, s => mwp P c (z1s id Q) s
 | .loop c, Q, s => z1t View (mwp P c) Q s
 | .rangeFunc g params a b, Q, s =>
  match q5u s.env g with
  | .func (.func f) fs cs => q9k P f ∧ ∀ key : LoopKey, key.Conv P params a b → ∀ l, q5s s.st l →
    PCalls P f (fs ++ [.func (.yield l) [] []] ++ cs) ((l, .loop key s.env .ready none) :: s.st) (k3b l Q s.env)
  | _ => False
 | .exit id, Q, s => Q (.exit id) s
 | .ret, Q, s => Q .ret s
def k76 : Env → List Nat → List PV → Env
 | e, t :: ts, p :: ps => k76 (q9x e (some t) p) ts ps
 | e, _, _ => e
def k77 (l : Nat) (Q : PEnd → q43 → Prop) : q6w
 | .normal, s =>
  match q5p s.st l with
  | some (.loop key e _ _) => Q (.ret (.bool true)) (q71 s.st l (.loop key e .ready none))
  | _ => False
 | .ret, s =>
  match q5p s.st l with
  | some (.loop key e _ _) => Q (.ret (.bool false)) (q71 s.st l (.loop key e .done (some .ret)))
  | _ => False
 | .exit id, s =>
  match q5p s.st l with
  | some (.loop key e _ _) => Q (.ret (.bool false)) (q71 s.st l (.loop key e .done (some (.exit id))))
  | _ => False
 | .panic _, _ => False
def z87 (P : Program) (l : Nat) (b : MCode) (Q : PEnd → q43 → Prop) : q6w
 | .normal, s =>
  match q5p s.st l with
  | some (.loop key e .ready pend) => mwp P b (k77 l Q) ⟨s.env, q71 s.st l (.loop key e .busy pend)⟩
  | _ => False
 | _, _ => False
structure Fix where
 defers : List Deferred
 pins : List (Nat × Value)
 imm : Imm
 noMarks : Bool
def k0c (d : Deferred) : Bool :=
 match d.target with
 | .collected _ => false
 | _ => true
def q9p (d : Deferred) : Option Nat :=
 match d.target with
 | .collected r => some r
 | _ => none
structure Fix.Holds (D : Fix) (N : Lim) (I : Imm) (a : Act) : Prop where
 imm : D.imm.le I
 defers : a.defers.filter k0c = D.defers
 marks : ∀ r ∈ a.defers.filterMap q9p, D.imm r = none ∧ I r = some (.deferred (some []))
 nodup : (a.defers.filterMap q9p).Nodup
 none : D.noMarks = true → a.defers.filterMap q9p = []
 pins : ∀ q ∈ D.pins, q.1 ∈ N.pn ∧ a.tmps.getD q.1 undef = q.2
theorem Fix.Holds.mono {D : Fix} {N : Lim} {I I' : Imm} {a : Act} (h : D.Holds N I a) (hI : I.le I') : D.Holds N I' a :=
 ⟨Imm.le_trans h.imm hI, h.defers, fun r hr => ⟨(h.marks r hr).1, hI _ _ (h.marks r hr).2⟩, h.nodup, h.none, h.pins⟩
theorem Fix.Holds.put {D : Fix} {N : Lim} {I : Imm} {a : Act} (h : D.Holds N I a) {d : Option Nat} (hd : ∀ t, d = some t → N.ok t) (v : Value) : D.Holds N I (a.put d v) := by
 cases d with
 | none => exact h
 | some t =>
  refine ⟨h.imm, h.defers, h.marks, h.nodup, h.none, fun q hq => ⟨(h.pins q hq).1, ?_⟩⟩
  have hne : t ≠ q.1 := fun e => (hd t rfl).2 (e ▸ (h.pins q hq).1)
  have : (a.put (some t) v).tmps.getD q.1 undef = a.tmps.getD q.1 undef := by
   simp [Act.put, Array.getElem?_setIfInBounds, hne]
  rw [this]
  exact (h.pins q hq).2
structure Rel (N : Lim) (D : Fix) (I : Imm) (s : PS) (a : Act) (w : World) : Prop where
 env : ∀ t, vrep I (q50 s.env t) (a.tmps.getD t undef)
 size : a.tmps.size = N.n
 fix : D.Holds N I a
 st : SRep I s.st w
theorem Rel.put {N : Lim} {D : Fix} {I I' : Imm} {e : Env} {st st' : q43} {a : Act} {w w' : World} (h : Rel N D I ⟨e, st⟩ a w) (hI : I.le I') (hs : SRep I' st' w') {d : Option Nat}
  (hd : ∀ t, d = some t → N.ok t) {p : PV} {v : Value} (hv : d ≠ none → vrep I' p v) : Rel N D I' ⟨q9x e d p, st'⟩ (a.put d v) w' := by
 cases d with
 | none => exact ⟨fun t => q6r hI _ _ (h.env t), h.size, h.fix.mono hI, hs⟩
 | some t =>
  refine ⟨fun u => ?_, by simp [Act.put, h.size], (h.fix.mono hI).put hd v, hs⟩
  have hlt : t < a.tmps.size := by rw [h.size]; exact (hd t rfl).1
  by_cases htu : t = u
  ·subst htu
   simp only [q7n]
   have : (a.put (some t) v).tmps.getD t undef = v := by simp [Act.put, hlt]
   rw [this]
   exact hv (by simp)
  ·simp only [q8x _ _ _ _ htu]
   have : (a.put (some t) v).tmps.getD u undef = a.tmps.getD u undef := by
    simp [Act.put, Array.getElem?_setIfInBounds, htu]
   rw [this]
   exact q6r hI _ _ (h.env u)
theorem Rel.x {N : Lim} {D : Fix} {I : Imm} {s : PS} {a : Act} {w : World} (h : Rel N D I s a w) {x : Operand} {m : MX} (hm : q5t x = some m) : vrep I (q5u s.env m) (a.eval x) := by
 cases x with
 | tmp t => simp only [q5t, Option.some.injEq] at hm; subst hm; exact h.env t
 | const v =>
  simp only [q5t] at hm
  split at hm
  ·rename_i hc
   simp only [Option.some.injEq] at hm; subst hm; exact k4m hc
  ·cases hm
 | global g =>
  simp only [q5t, Option.some.injEq] at hm
  subst hm
  simp only [q5u, Act.eval, vrep]
 | func f =>
  simp only [q5t, Option.some.injEq] at hm
  subst hm
  simp only [q5u, Act.eval, vrep]
  exact ⟨[], [], rfl, by simp [vreps], by simp [vreps]⟩
theorem Rel.xs {N : Lim} {D : Fix} {I : Imm} {s : PS} {a : Act} {w : World} (h : Rel N D I s a w) (l : List Operand) : k9p I (q5u s.env) a.eval l := fun _ _ _ hm => h.x hm
theorem Rel.weaken {N : Lim} {D : Fix} {I : Imm} {e e' : Env} {st : q43} {a : Act} {w : World} (h : Rel N D I ⟨e, st⟩ a w) (he : ∀ t, q50 e' t = .any ∨ q50 e' t = q50 e t) : Rel N D I ⟨e', st⟩ a w :=
 ⟨fun t => by rcases he t with h1 | h1 <;> rw [h1]; (· simp only [vrep]); exact h.env t, h.size, h.fix, h.st⟩
theorem Rel.guard {N : Lim} {D : Fix} {I : Imm} {e : Env} {st : q43} {a : Act} {w : World} (h : Rel N D I ⟨e, st⟩ a w) {t : Nat} {c : Bool} (ht : q50 e t = .bool c) : Rel N D I ⟨z1r e t c, st⟩ a w := by
 refine h.weaken fun u => .inr ?_
 unfold z1r
 by_cases htu : t = u
 ·subst htu; rw [q7n, ht]
 ·rw [q8x _ _ _ _ htu]
def HRel (N : Lim) (D : Fix) (I0 : Imm) (w0 : World) (R : PS → Prop) (a : Act) (w : World) : Prop :=
 ∃ I s, I0.le I ∧ Calm w0 w ∧ Rel N D I s a w ∧ R s
def HPan (I0 : Imm) (w0 : World) (QP : PV → q43 → Prop) (chain : List PanicEntry) (w : World) : Prop :=
 ∃ v, chain = [{ v, recovered := false }] ∧ k9l I0 w0 (fun I st => ∃ p, vrep I p v ∧ QP p st) w
def HPanA (N : Lim) (D : Fix) (I0 : Imm) (w0 : World) (QP : PV → q43 → Prop) (chain : List PanicEntry) (a : Act) (w : World) : Prop :=
 ∃ v, chain = [{ v, recovered := false }] ∧ k9l I0 w0 (fun I st => D.Holds N I a ∧ ∃ p, vrep I p v ∧ QP p st) w
def j74 (N : Lim) (D : Fix) (I0 : Imm) (w0 : World) (Q : q6w) : Exit → Act → World → Prop
 | .normal, a, w => HRel N D I0 w0 (Q .normal) a w
 | .exit id, a, w => HRel N D I0 w0 (Q (.exit id)) a w
 | .ret, a, w => HRel N D I0 w0 (Q .ret) a w
 | .panic chain, a, w => HPanA N D I0 w0 (q6j Q) chain a w
 | _, _, _ => False
theorem HRel.from {N : Lim} {D : Fix} {I0 I1 : Imm} {w0 w1 : World} {R : PS → Prop} {a : Act} {w : World} (hI : I0.le I1) (hw : Calm w0 w1) (h : HRel N D I1 w1 R a w) : HRel N D I0 w0 R a w := by
 obtain ⟨I, s, h1, h2, h3, h4⟩ := h
 exact ⟨I, s, Imm.le_trans hI h1, hw.trans h2, h3, h4⟩
theorem HPan.act {N : Lim} {D : Fix} {I0 I1 : Imm} {w0 w1 : World} {QP : PV → q43 → Prop} {ch : List PanicEntry} {a : Act} {w : World} (hI : I0.le I1) (hw : Calm w0 w1) (hd : D.Holds N I1 a) (h : HPan I1 w1 QP ch w) : HPanA N D I0 w0 QP ch a w := by
 obtain ⟨v, h0, I, st, h1, h2, h3, p, h4, h5⟩ := h
 exact ⟨v, h0, I, st, Imm.le_trans hI h1, hw.trans h2, h3, hd.mono h1, p, h4, h5⟩
theorem HPanA.from {N : Lim} {D : Fix} {I0 I1 : Imm} {w0 w1 : World} {QP : PV → q43 → Prop} {ch : List PanicEntry} {a : Act} {w : World} (hI : I0.le I1) (hw : Calm w0 w1) (h : HPanA N D I1 w1 QP ch a w) : HPanA N D I0 w0 QP ch a w := by
 obtain ⟨v, h0, I, st, h1, h2, h3⟩ := h
 exact ⟨v, h0, I, st, Imm.le_trans hI h1, hw.trans h2, h3⟩
theorem z31 {N : Lim} {D : Fix} {I0 I1 : Imm} {w0 w1 : World} {Q : q6w} (hI : I0.le I1) (hw : Calm w0 w1) (e : Exit) (a : Act) (w : World) (h : j74 N D I1 w1 Q e a w) : j74 N D I0 w0 Q e a w := by
 cases e <;> simp only [j74] at h ⊢ <;> first | exact h | exact HRel.from hI hw h | exact HPanA.from hI hw h
structure Wide (F : Fence) : Prop where
 fn : ∀ f, F.fn f
 depth : F.depth = none
 alive : F.alive = false
theorem Wide.fenced {F : Fence} (h : Wide F) (mm : Machine) : Machine.fenced P F mm := by
 intro g _
 exact ⟨fun hx => (by rw [h.alive] at hx; cases hx), .inl (h.fn _), fun f _ => h.fn f, fun d hd => by rw [h.depth] at hd; cases hd⟩
theorem Wide.calls {F : Fence} (h : Wide F) {n : Nat} {g : FuncId} {args : Array Value} {w : World} {R : Ending → World → Prop} (hc : Calls P g args w R) : CallsIn F n P g args w R :=
 ⟨h.fn g, fun cs _ => by
  obtain ⟨en, w2, fr, hR, hc, h6, h7⟩ := hc cs
  refine ⟨en, w2, fr, hR, ?_, h6, h7⟩
  cases en with
  | returned v => exact (StepsIn.of_steps hc).mono (fun mm _ => h.fenced mm)
  | panicked ch => exact (StepsIn.of_steps hc).mono (fun mm _ => h.fenced mm)
  | outgrown => exact hc⟩
theorem Wide.round {F : Fence} (h : Wide F) {n m : Nat} {l : Nat} {f : FuncId} {tmps : Array Value} {assign body : Code} {w : World} {R : Ending → World → Prop} (hr : RoundIn Fence.wide n P l f tmps assign body w R) : RoundIn F m P l f tmps assign body w R :=
 ⟨h.fn f, fun c cs _ => by
  obtain ⟨e, w', r, s⟩ := hr.2 c cs (room_wide _)
  refine ⟨e, w', r, ?_⟩
  cases e with
  | returned v => exact StepsIn.mono (fun mm _ => h.fenced mm) s
  | panicked ch => exact StepsIn.mono (fun mm _ => h.fenced mm) s
  | outgrown => exact s⟩
theorem j0m {F : Fence} {n : Nat} (hF : Wide F) {N : Lim} {D : Fix} {o : Oper} {m : MOp} (hm : k1z P o.op = some m) (hdf : ∀ c, o.op ≠ .defer c) (hd : ∀ t, o.dst = some t → N.ok t)
  {I : Imm} {e : Env} {st : q43} {a : Act} {w : World} (hr : Rel N D I ⟨e, st⟩ a w) {K : PS → Prop} {QP : PV → q43 → Prop}
  (hk : mop P m (q5u e) st (fun p st' => K ⟨q9x e o.dst p, st'⟩) QP)
  {next : Act → World → Prop} {Q : Exit → Act → World → Prop} (hnext : ∀ a' w', HRel N D I w K a' w' → next a' w')
  (hpan : ∀ ch w', HPan I w QP ch w' → Q (.panic ch) a w') : o.wpIn F n P a w next Q := by
 refine ⟨fun f _ => hF.fn f, ?_⟩
 rw [Oper.semAt_eq F.round a.eval o hdf]
 have h := z14 (fun _ => rfl) hm hk hr.st (hr.xs _)
 generalize (execOp a.eval o).run P w = r at h
 cases r with
 | ok x w' =>
  cases x <;> simp only [UponR] at h <;> simp only [Oper.uponIn]
  case value v =>
   obtain ⟨I', st', h1, h2, h3, p, h4, h5⟩ := h
   exact hnext _ _ ⟨I', _, h1, h2, hr.put h1 h3 hd (fun _ => h4), h5⟩
  case skip =>
   obtain ⟨I', st', h1, h2, h3, h5⟩ := h
   exact hnext _ _ ⟨I', _, h1, h2, hr.put h1 h3 hd (fun _ => by simp only [vrep]), h5⟩
  case enter g args =>
   obtain ⟨ps, st1, I1, h1, h2, h3, vs, rfl, h4, h5⟩ := h
   refine ⟨fun hx => (by rw [hF.depth] at hx; simp at hx), hF.fn _, fun cs hroom => ?_⟩
   obtain ⟨en, w2, fr, hR, hc, h6, h7⟩ := h5.out I1 w' vs h3 h4 cs
   refine ⟨en, w2, fr, ?_, ?_, h6, h7⟩
   ·obtain ⟨I', st', g1, g2, g3, pe, g4, g5⟩ := hR
    cases pe with
    | ret p =>
     simp only [z1q] at g4
     obtain ⟨v, rfl, g6⟩ := g4
     simp only [q8h] at g5
     exact hnext _ _ ⟨I', _, Imm.le_trans h1 g1, h2.trans g2, hr.put (Imm.le_trans h1 g1) g3 hd (fun _ => g6), g5⟩
    | panic p =>
     simp only [z1q] at g4
     obtain ⟨v, rfl, g6⟩ := g4
     simp only [q8h] at g5
     exact hpan _ _ ⟨v, rfl, I', st', Imm.le_trans h1 g1, h2.trans g2, g3, p, g6, g5⟩
   ·have hall : ∀ mm : Machine, Machine.fenced P F mm := hF.fenced
    cases en with
    | returned v => exact (StepsIn.of_steps hc).mono (fun mm _ => hall mm)
    | panicked ch => exact (StepsIn.of_steps hc).mono (fun mm _ => hall mm)
    | outgrown => exact hc
  case round l f tmps assign body =>
   refine ⟨fun hx => (by rw [hF.depth] at hx; simp at hx), (hF.round h).mono fun en w2 hR => ?_⟩
   obtain ⟨I', st', g1, g2, g3, pe, g4, g5⟩ := hR
   cases pe with
   | ret p =>
    simp only [z1q] at g4
    obtain ⟨v, rfl, g6⟩ := g4
    simp only [q8h] at g5
    exact hnext _ _ ⟨I', _, g1, g2, hr.put g1 g3 hd (fun _ => g6), g5⟩
   | panic p =>
    simp only [z1q] at g4
    obtain ⟨v, rfl, g6⟩ := g4
    simp only [q8h] at g5
    exact hpan _ _ ⟨v, rfl, I', st', g1, g2, g3, p, g6, g5⟩
 | halt x w' =>
  cases x <;> simp only [UponR] at h <;> simp only [Oper.uponIn]
  case panic v =>
   obtain ⟨I', st', h1, h2, h3, p, h4, h5⟩ := h
   exact hpan _ _ ⟨v, rfl, I', st', h1, h2, h3, p, h4, h5⟩
end Go.Pv
