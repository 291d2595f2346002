/- The compact code is met by the model's own: maps. -/
import Derived.Test.YtliglilanpfjhaaLSn
namespace Go.Pv
variable {P : Program}

def KeyRuns (P : Program) (d : Nat) : Prop := ∀ (T : TypeId) (ks : List LK), eqPlan P d T = some ks → ∀ (empty : Bool) (e : Nat) (us : List Value) (w : World), us.length = ks.length →
  (Instr.checkKey empty (d + e) T (mkV (isAggT P T) us)).run P w = .ok () w

theorem keyFields_run {d : Nat} (ih : KeyRuns P d) (empty : Bool) (e : Nat) (us : List Value) (w : World) : ∀ (fs : List Field) (cur : Nat) (ks : List LK), fieldsPlan (eqPlan P d) P cur fs = some ks →
    cur + ks.length ≤ us.length →
    (forIn fs PUnit.unit (fun f (_ : PUnit) => if f.name ≠ "_" then (do
        let a ← part f.type us.toArray f.offset
        Instr.checkKey empty (d + e) f.type a
        pure (ForInStep.yield PUnit.unit)) else pure (ForInStep.yield PUnit.unit)) : Sem PUnit).run P w = .ok PUnit.unit w
  | [], cur, ks, h, hu => by simp
  | f :: fs, cur, ks, h, hu => by
    simp only [fieldsPlan] at h
    split at h
    · rename_i k1 hk1
      split at h
      · rename_i hcond
        obtain ⟨hn, hoff, hok⟩ := hcond
        simp only [Option.map_eq_some_iff] at h
        obtain ⟨k2, hk2, rfl⟩ := h
        obtain ⟨a, hl, ha1⟩ := partOK_spec hok
        simp only [List.length_append] at hu
        have h1 := ih f.type k1 hk1 empty e ((us.drop cur).take k1.length) w (by rw [List.length_take, List.length_drop]; omega)
        rw [lay_isAgg hl] at h1
        simp only [List.forIn_cons, if_pos hn, Sem.run_bind, hoff, part_mkV hl ha1 (show cur + k1.length ≤ us.length by omega), Result.andThen_ok, h1, Sem.run_pure]
        exact keyFields_run ih empty e us w fs (cur + k1.length) k2 hk2 (by omega)
      · cases h
    · cases h
theorem keyArr_run {d : Nat} (ih : KeyRuns P d) {el : TypeId} {ks : List LK} (hk : eqPlan P d el = some ks) (hok : partOK P el ks.length = true) (empty : Bool) (e : Nat) (us : List Value) (w : World) :
    ∀ (n i : Nat), (i + n) * ks.length ≤ us.length →
    (forIn (List.range' i n) PUnit.unit (fun j (_ : PUnit) => (do
        let sz ← sizeOf el
        let a ← part el us.toArray (j * sz)
        Instr.checkKey empty (d + e) el a
        pure (ForInStep.yield PUnit.unit))) : Sem PUnit).run P w = .ok PUnit.unit w
  | 0, i, _ => by simp
  | n + 1, i, hu => by
    obtain ⟨a, hl, ha1⟩ := partOK_spec hok
    have hb : i * ks.length + ks.length ≤ us.length := by
      have : (i + 1) * ks.length ≤ (i + (n + 1)) * ks.length := Nat.mul_le_mul_right _ (by omega)
      rw [Nat.succ_mul] at this
      omega
    have h1 := ih el ks hk empty e ((us.drop (i * ks.length)).take ks.length) w (by rw [List.length_take, List.length_drop]; omega)
    rw [lay_isAgg hl] at h1
    simp only [List.range'_succ, List.forIn_cons, Sem.run_bind, lay_size hl, Result.andThen_ok, part_mkV hl ha1 hb, h1, Sem.run_pure]
    exact keyArr_run ih hk hok empty e us w n (i + 1) (by rw [show i + 1 + n = i + (n + 1) by omega]; exact hu)

theorem keyPlan_run : ∀ d, KeyRuns P d
  | 0 => by intro T ks h; cases h
  | d + 1 => by
    intro T ks h empty e us w hu
    rw [show d + 1 + e = (d + e) + 1 by omega]
    simp only [eqPlan] at h
    split at h
    · rename_i k0 hud
      simp [Instr.checkKey, run_underlying hud]
    · rename_i hud
      simp [Instr.checkKey, run_underlying hud]
    · rename_i hud
      simp [Instr.checkKey, run_underlying hud]
    · rename_i fs hud
      split at h
      · cases h
      · have ha : isAggT P T = true := by unfold isAggT; rw [hud]; rfl
        rw [ha]
        have := keyFields_run (keyPlan_run d) empty e us w fs.toList 0 ks h (by omega)
        simp only [mkV, if_true]
        simp [Instr.checkKey, run_underlying hud] at this ⊢
        exact this
    · rename_i n el hud
      split at h
      · rename_i k1 hk1
        split at h
        · rename_i hok
          simp only [Option.some.injEq] at h
          subst h
          have ha : isAggT P T = true := by unfold isAggT; rw [hud]; rfl
          rw [ha]
          obtain ⟨a, hl, ha1⟩ := partOK_spec hok
          have := keyArr_run (keyPlan_run d) hk1 hok empty e us w n 0 (by simp at hu ⊢; omega)
          simp only [mkV, if_true]
          simp [Instr.checkKey, run_underlying hud, Std.Legacy.Range.forIn_eq_forIn_range', Std.Legacy.Range.size] at this ⊢
          exact this
        · cases h
      · cases h
    · cases h

theorem eqLeaf_val (l : LK) (u v : Value) : eqLeaf l (.val u) (.val v) = leafEq l u v := by
  cases l <;> cases u <;> cases v <;> rfl
theorem eqCells_val : ∀ (ls : List LK) (us vs : List Value), eqCells ls (us.map .val) (vs.map .val) = leafEqs ls us vs
  | [], [], [] => rfl
  | [], [], _ :: _ => rfl
  | [], _ :: _, _ => rfl
  | _ :: _, [], _ => rfl
  | _ :: _, _ :: _, [] => rfl
  | l :: ls, u :: us, v :: vs => by
    simp only [List.map_cons, eqCells, leafEqs, eqLeaf_val, eqCells_val ls us vs]
    cases leafEq l u v <;> cases leafEqs ls us vs <;> rfl
theorem leafEq_true {l : LK} {u v : Value} (h : leafEq l u v = some true) : u = v := by
  cases l <;> cases u <;> cases v <;> simp only [leafEq, reduceCtorEq] at h
  · split at h
    · rename_i e; subst e; simpa using h
    · cases h
  · simpa using h
  · rename_i a b
    have h : (a.toList == b.toList) = true := by simpa using h
    rw [ByteArray.toList_eq, ByteArray.toList_eq] at h
    have := ByteArray.ext (Array.ext' (eq_of_beq h))
    rw [this]
theorem leafEqs_true : ∀ {ls : List LK} {us vs : List Value}, leafEqs ls us vs = some true → us = vs
  | [], [], [], _ => rfl
  | [], [], _ :: _, h => by simp [leafEqs] at h
  | [], _ :: _, _, h => by simp [leafEqs] at h
  | _ :: _, [], _, h => by simp [leafEqs] at h
  | _ :: _, _ :: _, [], h => by simp [leafEqs] at h
  | l :: ls, u :: us, v :: vs, h => by
    simp only [leafEqs] at h
    split at h
    · rename_i a b ha hb
      simp only [Option.some.injEq, Bool.and_eq_true] at h
      obtain ⟨rfl, rfl⟩ := h
      rw [leafEq_true ha, leafEqs_true hb]
    · cases h
theorem bytes_beq_self (s : ByteArray) : (s == s) = true := by
  show (s.data == s.data) = true
  simp
theorem bytes_beq (s t : ByteArray) : (s == t) = (s.toList == t.toList) := by
  show (s.data == t.data) = _
  rw [ByteArray.toList_eq, ByteArray.toList_eq]
  by_cases h : s.data = t.data
  · simp [h]
  · simp
theorem sameBits_leaf {l : LK} {u v : Value} {b : Bool} (h : leafEq l u v = some b) (n : Nat) : Instr.sameBits n u u = true := by
  cases l <;> cases u <;> cases v <;> simp only [leafEq, reduceCtorEq] at h <;> simp [Instr.sameBits]
  exact bytes_beq_self _
theorem sameBits_leafs {n : Nat} : ∀ {ls : List LK} {us vs : List Value} {b : Bool}, leafEqs ls us vs = some b → (us.zip us).all (fun (x, y) => Instr.sameBits n x y) = true
  | [], [], [], _, _ => rfl
  | [], [], _ :: _, _, h => by simp [leafEqs] at h
  | [], _ :: _, _, _, h => by simp [leafEqs] at h
  | _ :: _, [], _, _, h => by simp [leafEqs] at h
  | _ :: _, _ :: _, [], _, h => by simp [leafEqs] at h
  | l :: ls, u :: us, v :: vs, b, h => by
    simp only [leafEqs] at h
    split at h
    · rename_i a b' ha hb
      simp only [List.zip_cons_cons, List.all_cons, sameBits_leaf ha, sameBits_leafs hb, Bool.and_self]
    · cases h

theorem keyCells_spec {kp : KP} {u v : Value} {b : Bool} (h : eqCells kp.2 (keyCells kp.1 u) (keyCells kp.1 v) = some b) : ∃ us vs, u = mkV kp.1 us ∧ v = mkV kp.1 vs ∧ leafEqs kp.2 us vs = some b ∧ us.length = kp.2.length := by
  obtain ⟨a, lk⟩ := kp
  cases a with
  | false =>
    have e1 : ∀ x, keyCells false x = [x].map .val := fun x => by cases x <;> rfl
    rw [e1, e1, eqCells_val] at h
    exact ⟨[u], [v], rfl, rfl, h, (leafEqs_length h).1⟩
  | true =>
    have bad : ∀ (l : List LK) (q : List PV), eqCells l [.any] q = none := by
      intro l q
      cases l with
      | nil => rfl
      | cons k l =>
        cases q with
        | nil => rfl
        | cons p q =>
          have : eqLeaf k .any p = none := by cases k <;> rfl
          simp [eqCells, this]
    have bad2 : ∀ (l : List LK) (q : List PV), eqCells l q [.any] = none := by
      intro l q
      cases l with
      | nil => cases q <;> rfl
      | cons k l =>
        cases q with
        | nil => rfl
        | cons p q =>
          have : eqLeaf k p .any = none := by cases k <;> cases p <;> first | rfl | (rename_i v; cases v <;> rfl)
          simp [eqCells, this]
    cases u with
    | agg cs =>
      cases v with
      | agg ds =>
        simp only [keyCells] at h
        rw [eqCells_val] at h
        exact ⟨cs.toList, ds.toList, by simp [mkV], by simp [mkV], h, (leafEqs_length h).1⟩
      | _ => simp only [keyCells, bad2] at h; cases h
    | _ => simp only [keyCells, bad] at h; cases h

/-- The plan of a map's keys. -/
def keyPlan (P : Program) (T : TypeId) : Option KP := (eqPlan P 12 T).map fun ks => (isAggT P T, ks)
theorem sameNow_eq {T : TypeId} {kp : KP} (hk : keyPlan P T = some kp) {d : TypeDesc} (hd : P.underlying T = some d) {u v : Value} {b x : Bool} (h : eqCells kp.2 (keyCells kp.1 u) (keyCells kp.1 v) = some b)
    (hx : Instr.sameNow d u v = some x) : x = b := by
  simp only [keyPlan, Option.map_eq_some_iff] at hk
  obtain ⟨ks, hks, rfl⟩ := hk
  simp only [eqPlan, hd] at hks
  unfold Instr.sameNow at hx
  split at hx
  · simp only [Option.some.injEq] at hks
    subst hks
    have ha : isAggT P T = false := by unfold isAggT; rw [hd]; rfl
    rw [ha] at h
    simp only [keyCells, eqCells, eqLeaf] at h
    split at hx
    · rename_i hkk
      simp only [hkk, if_true, Option.some.injEq, Bool.and_true] at h hx
      rw [← hx, ← h]
    · cases hx
  · simp only [Option.some.injEq] at hks
    subst hks
    have ha : isAggT P T = false := by unfold isAggT; rw [hd]; rfl
    rw [ha] at h
    simp only [keyCells, eqCells, eqLeaf, Option.some.injEq, Bool.and_true] at h hx
    rw [← hx, ← h, bytes_beq]
  · simp only [Option.some.injEq] at hks
    subst hks
    have ha : isAggT P T = false := by unfold isAggT; rw [hd]; rfl
    rw [ha] at h
    simp only [keyCells, eqCells, eqLeaf, Option.some.injEq, Bool.and_true] at h hx
    rw [← hx, ← h]
  · cases hx
def found (es : List MapEntry) (i : Nat) (r : Option Nat) : Option (Nat × Value) := r.map fun j => (i + j, ((es[j]?).map (·.val)).getD undef)
theorem found_succ (e : MapEntry) (es : List MapEntry) (i : Nat) (r : Option Nat) : found (e :: es) i (r.map (· + 1)) = found es (i + 1) r := by
  cases r <;> simp [found]; omega
theorem findNow_spec {T : TypeId} {kp : KP} (hk : keyPlan P T = some kp) {d : TypeDesc} (hd : P.underlying T = some d) {kv : Value} : ∀ (es : List MapEntry) (i : Nat) (r : Option Nat), kidx kp kv (es.map (·.key)) = some r →
    Instr.findNow d kv es i = none ∨ Instr.findNow d kv es i = some (found es i r)
  | [], i, r, h => by
    simp only [List.map_nil, kidx, Option.some.injEq] at h
    subst h
    exact .inr rfl
  | e :: es, i, r, h => by
    simp only [List.map_cons, kidx] at h
    unfold Instr.findNow
    cases hx : Instr.sameNow d kv e.key with
    | none => exact .inl rfl
    | some x =>
      split at h
      · rename_i hb
        obtain rfl := sameNow_eq hk hd hb hx
        simp only [Option.some.injEq] at h
        subst h
        exact .inr (by simp [found])
      · rename_i hb
        obtain rfl := sameNow_eq hk hd hb hx
        simp only [Option.map_eq_some_iff] at h
        obtain ⟨r', hr', rfl⟩ := h
        rw [found_succ]
        exact findNow_spec hk hd es (i + 1) r' hr'
      · cases h
theorem findAsking_run {T : TypeId} {kp : KP} (hk : keyPlan P T = some kp) {kv : Value} {w : World} : ∀ (es : List MapEntry) (i : Nat) (r : Option Nat), kidx kp kv (es.map (·.key)) = some r →
    (Instr.findAsking T kv es i).run P w = .ok (found es i r) w
  | [], i, r, h => by
    simp only [List.map_nil, kidx, Option.some.injEq] at h
    subst h
    rfl
  | e :: es, i, r, h => by
    simp only [List.map_cons, kidx] at h
    have eqr : ∀ b, eqCells kp.2 (keyCells kp.1 kv) (keyCells kp.1 e.key) = some b → (Op.equal T kv e.key).run P w = .ok b w := by
      intro b hb
      obtain ⟨us, vs, h1, h2, h3, -⟩ := keyCells_spec hb
      simp only [keyPlan, Option.map_eq_some_iff] at hk
      obtain ⟨ks, hks, rfl⟩ := hk
      have := eqPlan_run 12 T ks hks 9988 us vs b w h3
      rw [h1, h2]
      exact this
    split at h
    · rename_i hb
      simp only [Option.some.injEq] at h
      subst h
      simp [Instr.findAsking, eqr _ hb, found]
    · rename_i hb
      simp only [Option.map_eq_some_iff] at h
      obtain ⟨r', hr', rfl⟩ := h
      simp only [Instr.findAsking, Sem.run_bind, eqr _ hb, Result.andThen_ok, Bool.false_eq_true, if_false]
      rw [found_succ]
      exact findAsking_run hk es (i + 1) r' hr'
    · cases h
theorem findKey_run {T : TypeId} {kp : KP} (hk : keyPlan P T = some kp) {kv : Value} {w : World} {es : List MapEntry} {r : Option Nat} (h : kidx kp kv (es.map (·.key)) = some r) :
    (Instr.findKey T kv es).run P w = .ok (found es 0 r) w := by
  have : ∃ d, P.underlying T = some d := by
    simp only [keyPlan, Option.map_eq_some_iff] at hk
    obtain ⟨ks, hks, rfl⟩ := hk
    simp only [eqPlan] at hks
    split at hks <;> first | exact ⟨_, by assumption⟩ | cases hks
  obtain ⟨d, hd⟩ := this
  simp only [Instr.findKey, Sem.run_bind, run_underlying hd, Result.andThen_ok]
  rcases findNow_spec hk hd es 0 r h with h1 | h1 <;> rw [h1]
  · exact findAsking_run hk es 0 r h
  · rfl

theorem vals?_spec {I : Imm} : ∀ {cs : List PV} {us vs : List Value}, PV.vals? cs = some us → vcells I cs vs → vs = us
  | [], us, vs, h, hv => by
    simp only [PV.vals?, Option.some.injEq] at h
    subst h
    cases vs with
    | nil => rfl
    | cons => simp [vcells] at hv
  | .val v :: cs, us, vs, h, hv => by
    simp only [PV.vals?, Option.map_eq_some_iff] at h
    obtain ⟨us', h1, rfl⟩ := h
    cases vs with
    | nil => simp [vcells] at hv
    | cons w ws =>
      simp only [vcells, vrep] at hv
      rw [hv.1.1, vals?_spec h1 hv.2]
  | .any :: _, _, _, h, _ | .agg _ :: _, _, _, h, _ | .tuple _ :: _, _, _, h, _ | .list _ _ _ :: _, _, _, h, _ | .iptr _ _ :: _, _, _, h, _ | .imap _ _ :: _, _, _, h, _ | .func _ _ _ :: _, _, _, h, _ | .iface _ _ :: _, _, _, h, _ => by simp [PV.vals?] at h
theorem key?_spec {I : Imm} {p : PV} {v kv : Value} (hv : vrep I p v) (h : p.key? = some kv) : v = kv := by
  unfold PV.key? at h
  split at h
  · simp only [Option.some.injEq] at h
    subst h
    simpa [vrep] using hv
  · simp only [Option.map_eq_some_iff] at h
    obtain ⟨vs, h1, rfl⟩ := h
    simp only [vrep] at hv
    obtain ⟨ws, rfl, hc⟩ := hv
    rw [vals?_spec h1 hc]
  · cases h

theorem getMap_run {r : Nat} {es : Array MapEntry} {clock : Nat} {w : World} (h : w.heap[r]? = some (.map es clock)) : (getObj r).run P w = .ok (.map es clock) w := by
  simp [getObj, Sem.run, h]
/-- The entries behind a map. -/
theorem mapOf_spec {I : Imm} {st : Store} {w : World} (hs : SRep I st w) {p : PV} {v : Value} (hv : vrep I p v) {ks : List Value} {vs : List PV} (h : mapOf st p = some (ks, vs)) :
    ∃ es : Array MapEntry, es.toList.map (·.key) = ks ∧ vreps I vs (es.toList.map (·.val)) ∧ ((v = .map none ∧ es = #[]) ∨ ∃ r clock, v = .map (some r) ∧ w.heap[r]? = some (.map es clock)) := by
  unfold mapOf at h
  split at h
  · simp only [Option.some.injEq, Prod.mk.injEq] at h
    obtain ⟨rfl, rfl⟩ := h
    simp only [vrep] at hv
    obtain ⟨r, es, clock, rfl, h1, h2, h3⟩ := hv
    exact ⟨es, h2, h3, .inr ⟨r, clock, rfl, hs.imm _ _ h1⟩⟩
  · simp only [Option.some.injEq, Prod.mk.injEq] at h
    obtain ⟨rfl, rfl⟩ := h
    simp only [vrep] at hv
    exact ⟨#[], rfl, by simp [vreps], .inl ⟨hv, rfl⟩⟩
  · rename_i b
    split at h
    · rename_i ks' vs' hb
      simp only [Option.some.injEq, Prod.mk.injEq] at h
      obtain ⟨rfl, rfl⟩ := h
      simp only [vrep] at hv
      obtain ⟨-, r, h1, es, clock, rfl, h2, h3, -⟩ := hs.objs b _ hb
      exact ⟨es, h2, h3, .inr ⟨b, clock, hv, h1⟩⟩
    · cases h
  · cases h
theorem checkKey_run {T : TypeId} {kp : KP} (hk : keyPlan P T = some kp) {us : List Value} (hl : us.length = kp.2.length) (empty : Bool) (w : World) : (Instr.checkKey empty 10000 T (mkV kp.1 us)).run P w = .ok () w := by
  simp only [keyPlan, Option.map_eq_some_iff] at hk
  obtain ⟨ks, hks, rfl⟩ := hk
  exact keyPlan_run 12 T ks hks empty 9988 us w hl
theorem keyFits_spec {kp : KP} {kv : Value} (h : keyFits kp kv = true) : ∃ us, kv = mkV kp.1 us ∧ us.length = kp.2.length := by
  obtain ⟨a, lk⟩ := kp
  cases a with
  | false => exact ⟨[kv], rfl, by simp [keyFits] at h; simp [h]⟩
  | true =>
    cases kv <;> simp only [keyFits, Bool.false_eq_true] at h
    rename_i cs
    exact ⟨cs.toList, by simp [mkV], by simpa using h⟩

theorem kidx_lt {kp : KP} {kv : Value} : ∀ {ks : List Value} {j : Nat}, kidx kp kv ks = some (some j) → j < ks.length
  | [], j, h => by simp [kidx] at h
  | k :: ks, j, h => by
    simp only [kidx] at h
    split at h
    · simp only [Option.some.injEq] at h; subst h; simp
    · simp only [Option.map_eq_some_iff] at h
      obtain ⟨r, hr, h⟩ := h
      cases r with
      | none => simp at h
      | some j' =>
        simp only [Option.some.injEq] at h
        obtain ⟨_, rfl, rfl⟩ := h
        have := kidx_lt hr
        simp; omega
    · cases h
theorem lookup_sound {t kt et : TypeId} (ht : P.underlying t = some (.map kt et)) {kp : KP} (hk : keyPlan P kt = some kp) {i : TypeInfo} {z : Value} (hi : P.info? et = some i) (hz : i.zero = some z) (hzc : okConst z = true)
    {I : Imm} {st : Store} {w : World} (hs : SRep I st w) {p q : PV} {v x : Value} (hp : vrep I p v) (hq : vrep I q x) {ks : List Value} {vs : List PV} {kv : Value} (h1 : mapOf st p = some (ks, vs)) (h2 : q.key? = some kv)
    (hf : keyFits kp kv = true) {r : Option Nat} (h3 : kidx kp kv ks = some r) (ok : Bool) {pr : PV} (hpr : match r with | some j => vs[j]? = some pr | none => pr = pvOf z) :
    ∃ u, (Instr.lookup t v x ok).run P w = .ok u w ∧ vrep I (if ok then .tuple [pr, .bool r.isSome] else pr) u := by
  obtain ⟨es, he1, he2, hv⟩ := mapOf_spec hs hp h1
  obtain rfl := key?_spec hq h2
  obtain ⟨us, hus, hul⟩ := keyFits_spec hf
  have hck := checkKey_run hk hul es.isEmpty w
  rw [← hus] at hck
  have hfk := findKey_run (w := w) hk (es := es.toList) (by rw [he1]; exact h3)
  have key : ∃ u, vrep I pr u ∧ (Instr.lookup t v x ok).run P w = .ok (if ok then .tuple #[u, .bool r.isSome] else u) w := by
    have hes : (match v with
        | .map none => (pure #[] : Sem (Array MapEntry))
        | .map (some r) => do
          let .map es _ ← getObj r | stuck "Lookup: map expected"
          pure es
        | _ => stuck "Lookup: map expected").run P w = .ok es w := by
      rcases hv with ⟨rfl, rfl⟩ | ⟨b, clock, rfl, hb⟩
      · rfl
      · simp [getMap_run hb]
    cases r with
    | some j =>
      simp only at hpr
      obtain ⟨u, hu1, hu2⟩ := vreps_get he2 hpr
      refine ⟨u, hu2, ?_⟩
      have hfound : found es.toList 0 (some j) = some (j, u) := by
        rw [List.getElem?_map] at hu1
        simp only [found, Option.map_some, Nat.zero_add, hu1, Option.getD_some]
      rw [hfound] at hfk
      rcases hv with ⟨rfl, rfl⟩ | ⟨b, clock, rfl, hb⟩
      · simp at hu1
      · simp [Instr.lookup, run_underlying ht, getMap_run hb, hck, hfk]
    | none =>
      simp only at hpr
      subst hpr
      refine ⟨z, pvOf_spec hzc, ?_⟩
      have hfound : found es.toList 0 none = none := rfl
      rw [hfound] at hfk
      rcases hv with ⟨rfl, rfl⟩ | ⟨b, clock, rfl, hb⟩
      · simp at hck hfk
        simp [Instr.lookup, run_underlying ht, hck, hfk, run_zeroValue' hi hz]
      · simp [Instr.lookup, run_underlying ht, getMap_run hb, hck, hfk, run_zeroValue' hi hz]
  obtain ⟨u, hu1, hu2⟩ := key
  refine ⟨_, hu2, ?_⟩
  cases ok with
  | true =>
    simp only [if_true, vrep]
    exact ⟨[u, .bool r.isSome], rfl, by simp [vreps, vrep, hu1]⟩
  | false => simpa using hu1
end Go.Pv
