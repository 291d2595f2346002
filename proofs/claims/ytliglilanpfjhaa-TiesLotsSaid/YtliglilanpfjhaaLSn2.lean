/- How an operation of the model that gives one value is read as one of the compact form, and that the reading is right. -/
import Derived.Test.YtliglilanpfjhaaLSk
namespace Go.Pv
variable {P : Program}

def placeOf (P : Program) (T : TypeId) (i : Nat) : Option (Nat × Nat) :=
  match P.underlying T with
  | some (.struct fields) =>
    match fields[i]? with
    | some f => (lay P f.type).map fun l => (f.offset, l.1)
    | none => none
  | some (.array _ e) => (lay P e).map fun l => (i * l.1, l.1)
  | _ => none
def fieldsOk (P : Program) (T : TypeId) : Bool :=
  match P.underlying T with
  | some (.struct fields) => fields.toList.all fun f => (lay P f.type).isSome
  | some (.array _ e) => (lay P e).isSome
  | _ => false
def convParts (place : Nat → Option (Nat × Nat)) : List (Nat × Operand) → Option (List (Nat × Nat × MX))
  | [] => some []
  | (i, x) :: rest =>
    match place i, convX x, convParts place rest with
    | some (off, k), some m, some ps => some ((off, k, m) :: ps)
    | _, _, _ => none
def zrep (zs : List PV) (n : Nat) : List PV := (List.range n).map fun j => (zs[j % zs.length]?).getD .any
def convOpt : Option Operand → Option (Option MX)
  | none => some none
  | some x => (convX x).map some
def convXs : List Operand → Option (List MX)
  | [] => some []
  | x :: xs =>
    match convX x, convXs xs with
    | some m, some ms => some (m :: ms)
    | _, _ => none

/-- Types whose values are held against nil. -/
def nilType (P : Program) (t : TypeId) : Bool :=
  match P.underlying t with
  | some (.slice _) | some (.map _ _) | some (.interface _) => true
  | _ => false
def isBoolT (P : Program) (t : TypeId) : Bool :=
  match P.underlying t with
  | some .bool => true
  | _ => false
def convVal (P : Program) : Op → Option MVal
  | .move x | .assign x => (convX x).map .mv
  | .pick c a b =>
    match convX c, convX a, convX b with
    | some c, some a, some b => some (.pick c a b)
    | _, _, _ => none
  | .build t parts =>
    match zcells P t, fieldsOk P t, convParts (placeOf P t) parts.toList with
    | some zs, true, some ps => some (.build zs ps)
    | _, _, _ => none
  | .buildSlice t len parts =>
    match P.underlying t with
    | some (.slice e) =>
      match lay P e, zcells P e with
      | some (k, _), some zs =>
        if len * k ≤ 2 ^ 24 ∧ len ≤ 2 ^ 24 then
          match convParts (fun i => some (i * k, k)) parts.toList with
          | some ps => some (.buildSlice e len (zrep zs (len * k)) ps)
          | none => none
        else none
      | _, _ => none
    | _ => none
  | .load t x =>
    match lay P t, convX x with
    | some (k, a), some x => some (.load k a x)
    | _, _ => none
  | .nilCheck x => (convX x).map .nilCheck
  | .binOp op t x y _ =>
    if nilType P t then none else
    if isBoolT P t then
      match op, convX x, convX y with
      | .eql, some x, some y => some (.eqBool false x y)
      | .neq, some x, some y => some (.eqBool true x y)
      | _, _, _ => none
    else
    match convX x, convX y, lay P t with
    | some x, some y, some (_, false) => some (.bin op t x y)
    | some x, some y, some (_, true) =>
      match op with
      | .eql => (eqOK P t).map fun ks => .eqAgg false ks x y
      | .neq => (eqOK P t).map fun ks => .eqAgg true ks x y
      | _ => none
    | _, _, _ => none
  | .unOp op _ x => (convX x).map (.un op)
  | .convert s d x =>
    match P.underlying s, P.underlying d, convX x with
    | some (.int _), some (.int k), some x => some (.toInt k x)
    | some (.slice e), some .string, some x =>
      match P.underlying e, lay P e with
      | some (.int .u8), some (1, _) => some (.strOf x)
      | _, _ => none
    | _, _, _ => none
  | .makeInterface t x =>
    match P.underlying t, convX x with
    | some (.interface _), _ => none
    | some _, some x => some (.mkIface t x)
    | _, _ => none
  | .makeFunc fn fs cs =>
    match convXs fs.toList, convXs cs.toList with
    | some fs, some cs => some (.mkFunc fn fs cs)
    | _, _ => none
  | .fieldAddr s x f =>
    match P.underlying s, convX x with
    | some (.struct fields), some x =>
      match fields[f]? with
      | some f =>
        match lay P f.type with
        | some (k, _) => if k = 0 then none else some (.fieldAddr f.offset x)
        | none => none
      | none => none
    | _, _ => none
  | .field t x f =>
    match P.underlying t, convX x with
    | some (.struct fields), some x =>
      match fields[f]? with
      | some f =>
        match lay P f.type with
        | some (k, a) => some (.field f.offset k a x)
        | none => none
      | none => none
    | _, _ => none
  | .indexAddr t x i =>
    match P.underlying t, convX x, convX i with
    | some (.slice e), some x, some i => (lay P e).map fun l => .indexAddr l.1 x i
    | some (.array n e), some x, some i => (lay P e).map fun l => .indexArr n l.1 x i
    | _, _, _ => none
  | .index t x i =>
    match P.underlying t, convX x, convX i with
    | some (.array n e), some x, some i => (lay P e).map fun l => .index n l.1 l.2 x i
    | some .string, some x, some i => some (.indexStr x i)
    | _, _, _ => none
  | .slice t x lo hi mx =>
    match P.underlying t, convX x, convOpt lo, convOpt hi, convOpt mx with
    | some (.slice e), some x, some lo, some hi, some mx => (lay P e).map fun l => .slice l.1 x lo hi mx
    | some (.array n e), some x, some lo, some hi, some mx => (lay P e).map fun l => .sliceArr n l.1 x lo hi mx
    | some .string, some x, some lo, some hi, some none => some (.sliceStr x lo hi)
    | _, _, _, _, _ => none
  | .lookup t x i ok =>
    match P.underlying t, convX x, convX i with
    | some (.map kt et), some x, some i =>
      match keyPlan P kt, P.info? et with
      | some kp, some info =>
        match info.zero with
        | some z => if okConst z then some (.lookup kp (pvOf z) ok x i) else none
        | none => none
      | _, _ => none
    | _, _, _ => none
  | .extract x i => (convX x).map (.extract i)
  | .typeAssert x _ t ok =>
    match P.underlying t, P.info? t, convX x with
    | some (.interface _), _, _ => none
    | some _, some i, some x =>
      match i.zero with
      | some z => if okConst z then some (.assert t (pvOf z) ok x) else none
      | none => none
    | _, _, _ => none
  | .call { callee := .builtin .len, args, argTypes } =>
    match args.toList, argTypes[0]? with
    | [x], some t =>
      match P.underlying t, convX x with
      | some (.slice _), some x => some (.len x)
      | some (.map _ _), some x => some (.maplen x)
      | some .string, some x => some (.strlen x)
      | _, _ => none
    | _, _ => none
  | .call { callee := .builtin .cap, args, argTypes } =>
    match args.toList, argTypes[0]? with
    | [x], some t =>
      match P.underlying t, convX x with
      | some (.slice _), some x => some (.cap x)
      | _, _ => none
    | _, _ => none
  | .call { callee := .builtin .max, args, argTypes := _ } => (convXs args.toList).map (.minmax true)
  | .call { callee := .builtin .min, args, argTypes := _ } => (convXs args.toList).map (.minmax false)
  | _ => none

/-- What 'val_sound' says of one reading. -/
def Gives (P : Program) (op : Op) (ρ : MX → PV) (st : Store) (p : PV) : Prop :=
  ∀ I w ev (o : Oper), o.op = op → SRep I st w → XRep I ρ ev op.operands.toList →
    ∃ u w' I', (execOp ev o).run P w = .ok (.value u) w' ∧ I.le I' ∧ Calm w w' ∧ SRep I' st w' ∧ vrep I' p u

theorem gives_still {op : Op} {ρ : MX → PV} {st : Store} {p : PV}
    (h : ∀ I w ev (o : Oper), o.op = op → SRep I st w → XRep I ρ ev op.operands.toList → ∃ u, (execOp ev o).run P w = .ok (.value u) w ∧ vrep I p u) : Gives P op ρ st p :=
  fun I w ev o ho hs hx => let ⟨u, h1, h2⟩ := h I w ev o ho hs hx; ⟨u, w, I, h1, I.le_refl, Calm.refl w, hs, h2⟩

theorem xrep1 {I : Imm} {ρ : MX → PV} {ev : Operand → Value} {x : Operand} {m : MX} (h : XRep I ρ ev [x]) (hm : convX x = some m) : vrep I (ρ m) (ev x) := h x (by simp) m hm
theorem xrep2 {I : Imm} {ρ : MX → PV} {ev : Operand → Value} {x y : Operand} {m n : MX} (h : XRep I ρ ev [x, y]) (hm : convX x = some m) (hn : convX y = some n) : vrep I (ρ m) (ev x) ∧ vrep I (ρ n) (ev y) :=
  ⟨h x (by simp) m hm, h y (by simp) n hn⟩
theorem xreps {I : Imm} {ρ : MX → PV} {ev : Operand → Value} : ∀ {xs : List Operand} {ms : List MX}, XRep I ρ ev xs → convXs xs = some ms → vreps I (ms.map ρ) (xs.map ev)
  | [], ms, _, h => by simp only [convXs, Option.some.injEq] at h; subst h; simp [vreps]
  | x :: xs, ms, hx, h => by
    simp only [convXs] at h
    split at h
    · rename_i m ms' h1 h2
      simp only [Option.some.injEq] at h
      subst h
      simp only [List.map_cons, vreps]
      exact ⟨hx x (by simp) m h1, xreps (fun y hy => hx y (by simp [hy])) h2⟩
    · cases h
theorem convParts_sound {I : Imm} {ρ : MX → PV} {ev : Operand → Value} {place : Nat → Option (Nat × Nat)} : ∀ {parts : List (Nat × Operand)} {ps : List (Nat × Nat × MX)},
    convParts place parts = some ps → XRep I ρ ev (parts.map (·.2)) →
    ∃ qs : List (Nat × Nat × Nat × PV), (ps.map fun q => (q.1, q.2.1, ρ q.2.2)) = (qs.map fun q => (q.2.1, q.2.2.1, q.2.2.2)) ∧
      All2 (fun (q : Nat × Nat × Nat × PV) (r : Nat × Value) => r.1 = q.1 ∧ place q.1 = some (q.2.1, q.2.2.1) ∧ vrep I q.2.2.2 r.2) qs (parts.map fun x => (x.1, ev x.2))
  | [], ps, h, _ => by
    simp only [convParts, Option.some.injEq] at h
    subst h
    exact ⟨[], rfl, .nil⟩
  | (i, x) :: rest, ps, h, hx => by
    simp only [convParts] at h
    split at h
    · rename_i off k m ps' hp hm hr
      simp only [Option.some.injEq] at h
      subst h
      obtain ⟨qs, h1, h2⟩ := convParts_sound hr (fun y hy => hx y (by simp at hy ⊢; exact .inr hy))
      refine ⟨(i, off, k, ρ m) :: qs, by simp [h1], .cons ⟨rfl, hp, hx x (by simp) m hm⟩ h2⟩
    · cases h

/-- The tables of a composite type's parts, as the model asks them. -/
theorem places_run {fields : Array Field} (h : fields.toList.all (fun f => (lay P f.type).isSome) = true) (w : World) :
    ∃ ps : Array (Nat × Nat), (fields.mapM (fun f => do pure (f.offset, ← sizeOf f.type) : Field → Sem (Nat × Nat))).run P w = .ok ps w ∧
      ∀ i : Nat, ps[i]? = (fields[i]?).bind fun (f : Field) => (lay P f.type).map fun l => (f.offset, l.1) := by
  rw [← Array.toArray_toList (xs := fields)] at h ⊢
  generalize fields.toList = fs at *
  simp only [List.mapM_toArray]
  suffices hs : ∃ ps : List (Nat × Nat), (fs.mapM (fun f => do pure (f.offset, ← sizeOf f.type) : Field → Sem (Nat × Nat))).run P w = .ok ps w ∧
      ∀ i : Nat, ps[i]? = (fs[i]?).bind fun (f : Field) => (lay P f.type).map fun l => (f.offset, l.1) by
    obtain ⟨ps, h1, h2⟩ := hs
    exact ⟨ps.toArray, by simp only [Sem.run_map, h1, Result.andThen_ok], fun i => by simpa using h2 i⟩
  induction fs with
  | nil => exact ⟨[], by simp, by simp⟩
  | cons f fs ih =>
    simp only [List.all_cons, Bool.and_eq_true] at h
    obtain ⟨ps, h1, h2⟩ := ih (by simpa using h.2)
    obtain ⟨l, hl⟩ := Option.isSome_iff_exists.1 h.1
    obtain ⟨k, a⟩ := l
    refine ⟨(f.offset, k) :: ps, ?_, fun i => ?_⟩
    · simp only [List.mapM_cons, Sem.run_bind, lay_size hl, Result.andThen_ok, Sem.run_pure, h1]
    · cases i with
      | zero => simp [hl]
      | succ i => simpa using h2 i

theorem build_sound {t : TypeId} {parts : Array (Nat × Operand)} {m : MVal} {ρ : MX → PV} {st : Store} {K : PV → Prop} (hm : convVal P (.build t parts) = some m) (hk : mval m ρ st K) :
    ∃ p, K p ∧ Gives P (.build t parts) ρ st p := by
  simp only [convVal] at hm
  split at hm
  · rename_i zs ps hz hf hp
    simp only [Option.some.injEq] at hm
    subst hm
    simp only [mval] at hk
    split at hk
    · rename_i cs hcs
      refine ⟨_, hk, gives_still fun I w ev o ho hs hx => ?_⟩
      obtain ⟨i, z, hi, hiz, hsz, h1, rfl, hzc⟩ := zcells_spec hz
      obtain ⟨qs, hq1, hq2⟩ := convParts_sound (ρ := ρ) (ev := ev) hp (by
        intro y hy m hm
        refine hx y ?_ m hm
        simpa [Op.operands] using hy)
      rw [hq1] at hcs
      obtain ⟨us, hus, hcu⟩ := fill_sound qs _ _ _ _ hq2 (hzc I) hcs
      refine ⟨.agg us.toArray, ?_, by simp only [vrep]; exact ⟨us, rfl, hcu⟩⟩
      have hmap : (parts.map fun (x : Nat × Operand) => (x.1, ev x.2)).toList = parts.toList.map fun x => (x.1, ev x.2) := by simp
      unfold fieldsOk at hf
      simp only [execOp, ho, Instr.build, Sem.run_bind, run_zeroValue' hi hiz, Result.andThen_ok]
      split at hf
      · rename_i fields hu
        obtain ⟨pl, hpl1, hpl2⟩ := places_run hf w
        have : (fun j => pl[j]?) = placeOf P t := by
          funext j
          rw [hpl2 j]
          unfold placeOf
          rw [hu]
          cases hj : fields[j]? <;> simp [hj]
        simp only [run_underlying hu, Result.andThen_ok, Sem.run_bind, hpl1]
        rw [this, hmap]
        simp only [Array.toArray_toList] at hus
        rw [hus]
        rfl
      · rename_i n e hu
        obtain ⟨l, hl⟩ := Option.isSome_iff_exists.1 hf
        obtain ⟨k, a⟩ := l
        have : (fun j => some (j * k, k)) = placeOf P t := by
          funext j
          unfold placeOf
          rw [hu]
          simp [hl]
        simp only [run_underlying hu, Result.andThen_ok, Sem.run_bind, lay_size hl]
        rw [this, hmap]
        simp only [Array.toArray_toList] at hus
        rw [hus]
        rfl
      · cases hf
    · exact hk.elim
  · cases hm

theorem zrep_spec {I : Imm} {zs : List PV} {vs : List Value} (h : vcells I zs vs) (n : Nat) (hn : n ≠ 0 → zs ≠ []) :
    vcells I (zrep zs n) ((List.range n).map fun j => vs.toArray[j % vs.toArray.size]!) := by
  unfold zrep
  have hl := vcells_length h
  have key : ∀ l : List Nat, (l ≠ [] → zs ≠ []) → vcells I (l.map fun j => (zs[j % zs.length]?).getD .any) (l.map fun j => vs.toArray[j % vs.toArray.size]!) := by
    intro l
    induction l with
    | nil => intro _; simp [vcells]
    | cons j l ih =>
      intro hne
      have hz := hne (by simp)
      have hpos : 0 < zs.length := List.length_pos_iff.2 hz
      simp only [List.map_cons, vcells]
      refine ⟨?_, ih (fun _ => hz)⟩
      have hlt : j % zs.length < zs.length := Nat.mod_lt _ hpos
      obtain ⟨u, hu, hv, h1⟩ := vcells_get h (List.getElem?_eq_getElem hlt)
      have e1 : (zs[j % zs.length]?).getD .any = zs[j % zs.length] := by rw [List.getElem?_eq_getElem hlt]; rfl
      have e2 : vs.toArray[j % vs.toArray.size]! = u := by
        rw [List.size_toArray, ← hl]
        simp [hu]
      rw [e1, e2]
      exact ⟨hv, h1⟩
  exact key _ (fun hne => hn (by rintro rfl; simp at hne))

theorem buildSlice_core {t : TypeId} {len : Nat} {parts : Array (Nat × Operand)} {m : MVal} {ρ : MX → PV} (hm : convVal P (.buildSlice t len parts) = some m) :
    ∃ e zs ps, m = .buildSlice e len zs ps ∧ len ≤ 2 ^ 24 ∧ ∀ cs, fillPV zs (ps.map fun q => (q.1, q.2.1, ρ q.2.2)) = some cs →
      ∀ I w ev o, o.op = .buildSlice t len parts → XRep I ρ ev o.op.operands.toList → ∃ us : List Value, vcells I cs us ∧ (execOp ev o).run P w = .ok (.value (.slice (some ⟨w.heap.size, 0, none⟩) len len)) (w.alloc (.cells us.toArray e)) := by
  simp only [convVal] at hm
  split at hm
  · rename_i e hu
    split at hm
    · rename_i k a zs hl hz
      split at hm
      · rename_i hbound
        split at hm
        · rename_i ps hp
          simp only [Option.some.injEq] at hm
          subst hm
          refine ⟨e, _, ps, rfl, hbound.2, fun cs hcs I w ev o ho hx => ?_⟩
          · rw [ho] at hx
            obtain ⟨i, z, hi, hiz, hsz, h1, rfl, hzc⟩ := zcells_spec hz
            have hik : i.size = k := by
              unfold lay at hl
              rw [hi] at hl
              split at hl
              · rename_i i' d e1 e2
                simp only [Option.some.injEq, Prod.mk.injEq] at hl e1
                rw [← hl.1, e1]
              · cases hl
            obtain ⟨qs, hq1, hq2⟩ := convParts_sound (ρ := ρ) (ev := ev) hp (by
              intro y hy m hm
              refine hx y ?_ m hm
              simpa [Op.operands] using hy)
            rw [hq1] at hcs
            have hzr := zrep_spec (hzc I) (len * k) (by
              intro hne hnil
              simp only [List.map_eq_nil_iff] at hnil
              have : z.cells.size = 0 := by rw [← Array.length_toList, hnil]; rfl
              rw [hsz, hik] at this
              rw [this] at hne
              exact hne rfl)
            obtain ⟨us, hus, hcu⟩ := fill_sound (place := fun i => some (i * k, k)) qs _ _ _ _ hq2 hzr hcs
            have hmap : (parts.map fun (x : Nat × Operand) => (x.1, ev x.2)).toList = parts.toList.map fun x => (x.1, ev x.2) := by simp
            refine ⟨us, hcu, ?_⟩
            · simp only [execOp, ho, Instr.buildSlice, Sem.run_bind, run_underlying hu, Result.andThen_ok, lay_size hl]
              rw [if_neg (by omega)]
              have hcells : ((Array.range (len * k)).map fun j => z.cells[j % z.cells.size]!) = ((List.range (len * k)).map fun j => z.cells[j % z.cells.size]!).toArray := by
                apply Array.ext'
                simp
              by_cases h0 : len * k = 0
              · simp only [h0] at hus
                simp only [h0, if_true, Sem.run_bind, Sem.run_pure, Result.andThen_ok]
                have e0 : ((Array.range 0).map fun j => (#[] : Array Value)[j % (#[] : Array Value).size]!) = #[] := by simp
                rw [e0, hmap]
                have e1 : (List.map (fun j => z.cells.toList.toArray[j % z.cells.toList.toArray.size]!) (List.range 0)).toArray = #[] := by simp
                rw [e1] at hus
                rw [hus]
                rfl
              · simp only [h0, if_false, Sem.run_bind, run_zeroValue' hi hiz, Result.andThen_ok, Sem.run_pure]
                rw [hcells, hmap]
                simp only [Array.toArray_toList] at hus
                rw [hus]
                rfl
        · cases hm
      · cases hm
    · cases hm
  · cases hm

theorem buildSlice_sound {t : TypeId} {len : Nat} {parts : Array (Nat × Operand)} {m : MVal} {ρ : MX → PV} {st : Store} {K : PV → Prop} (hm : convVal P (.buildSlice t len parts) = some m) (hk : mval m ρ st K) :
    ∃ p, K p ∧ Gives P (.buildSlice t len parts) ρ st p := by
  obtain ⟨e, zs, ps, rfl, hlen, hcore⟩ := buildSlice_core (ρ := ρ) hm
  simp only [mval] at hk
  split at hk
  · rename_i cs hcs
    refine ⟨_, hk, fun I w ev o ho hs hx => ?_⟩
    obtain ⟨us, hcu, hrun⟩ := hcore cs hcs I w ev o ho (by rw [ho]; exact hx)
    refine ⟨_, _, I.add w.heap.size (.cells us.toArray e), hrun, hs.le_add _, ⟨rfl, rfl, rfl, by simp⟩, hs.allocImm _, ?_⟩
    simp only [vrep]
    refine ⟨_, len, us, rfl, Nat.le_refl _, ?_, fun _ => rfl, vcells_mono (hs.le_add _) _ _ hcu, ?_⟩
    · unfold maxLen; omega
    · exact .inr ⟨w.heap.size, 0, rfl, us.toArray, e, (0, 0), by simp [Imm.add], fun j v hj => by simpa using hj⟩
  · exact hk.elim
end Go.Pv
