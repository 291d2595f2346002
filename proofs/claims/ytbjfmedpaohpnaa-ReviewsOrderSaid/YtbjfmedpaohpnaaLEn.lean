/- '==' on structs and arrays of plain cells. -/
import Derived.Test.YtbjfmedpaohpnaaLSn
import Derived.Laws.StructEq
set_option linter.unusedSimpArgs false
namespace Go.Pv
variable {P : Program}

def leafEq : LK → Value → Value → Option Bool
  | .int, .int k a, .int k' b => if k = k' then some (a == b) else none
  | .bool, .bool a, .bool b => some (a == b)
  | .str, .string a, .string b => some (a.toList == b.toList)
  | _, _, _ => none
def leafEqs : List LK → List Value → List Value → Option Bool
  | [], [], [] => some true
  | k :: ks, u :: us, v :: vs =>
    match leafEq k u v, leafEqs ks us vs with
    | some a, some b => some (a && b)
    | _, _ => none
  | _, _, _ => none

theorem eqLeaf_leaf {I : Imm} {l : LK} {p q : PV} {u v : Value} (h : vrep I p u) (k : vrep I q v) {b : Bool} (hb : eqLeaf l p q = some b) : leafEq l u v = some b := by
  unfold eqLeaf at hb
  split at hb <;> first | (simp only [vrep] at h k; subst h; subst k; simpa [leafEq] using hb) | cases hb
theorem eqCells_leaf {I : Imm} : ∀ {ls : List LK} {ps qs : List PV} {us vs : List Value} {b : Bool}, vcells I ps us → vcells I qs vs → eqCells ls ps qs = some b → leafEqs ls us vs = some b
  | [], [], [], us, vs, b, h, k, hb => by
    have h1 := vcells_length h
    have h2 := vcells_length k
    match us, vs, h1, h2 with
    | [], [], _, _ => simpa [leafEqs, eqCells] using hb
  | [], [], _ :: _, _, _, _, _, _, hb => by simp [eqCells] at hb
  | [], _ :: _, _, _, _, _, _, _, hb => by simp [eqCells] at hb
  | _ :: _, [], _, _, _, _, _, _, hb => by simp [eqCells] at hb
  | _ :: _, _ :: _, [], _, _, _, _, _, hb => by simp [eqCells] at hb
  | l :: ls, p :: ps, q :: qs, [], _, _, h, _, _ => by simp [vcells] at h
  | l :: ls, p :: ps, q :: qs, _ :: _, [], _, _, k, _ => by simp [vcells] at k
  | l :: ls, p :: ps, q :: qs, u :: us, v :: vs, b, h, k, hb => by
    simp only [vcells] at h k
    simp only [eqCells] at hb
    split at hb
    · rename_i a b' ha hb'
      simp only [Option.some.injEq] at hb
      subst hb
      simp only [leafEqs, eqLeaf_leaf h.1.1 k.1.1 ha, eqCells_leaf h.2 k.2 hb']
    · cases hb

theorem leafEqs_length : ∀ {ls : List LK} {us vs : List Value} {b : Bool}, leafEqs ls us vs = some b → us.length = ls.length ∧ vs.length = ls.length
  | [], [], [], _, _ => ⟨rfl, rfl⟩
  | [], [], _ :: _, _, h => by simp [leafEqs] at h
  | [], _ :: _, _, _, h => by simp [leafEqs] at h
  | _ :: _, [], _, _, h => by simp [leafEqs] at h
  | _ :: _, _ :: _, [], _, h => by simp [leafEqs] at h
  | _ :: ls, u :: us, v :: vs, b, h => by
    simp only [leafEqs] at h
    split at h
    · rename_i hb
      have := leafEqs_length hb
      simp [this.1, this.2]
    · cases h
theorem leafEqs_split : ∀ (l1 : List LK) {l2 : List LK} {us vs : List Value} {b : Bool}, leafEqs (l1 ++ l2) us vs = some b →
    ∃ a c, leafEqs l1 (us.take l1.length) (vs.take l1.length) = some a ∧ leafEqs l2 (us.drop l1.length) (vs.drop l1.length) = some c ∧ b = (a && c)
  | [], l2, us, vs, b, h => ⟨true, b, by simp [leafEqs], by simpa using h, by simp⟩
  | l :: l1, l2, [], vs, b, h => by simp [leafEqs] at h
  | l :: l1, l2, _ :: _, [], _, h => by simp [leafEqs] at h
  | l :: l1, l2, u :: us, v :: vs, b, h => by
    simp only [List.cons_append, leafEqs] at h
    split at h
    · rename_i x y hx hy
      simp only [Option.some.injEq] at h
      obtain ⟨a, c, h1, h2, h3⟩ := leafEqs_split l1 hy
      refine ⟨x && a, c, ?_, by simpa using h2, by rw [← h, h3, Bool.and_assoc]⟩
      simp only [List.length_cons, List.take_succ_cons, leafEqs, hx, h1]
    · cases h

/-- A value out of its cells. -/
def mkV (a : Bool) (us : List Value) : Value := if a then .agg us.toArray else us.headD undef

theorem part_mkV {T k : Nat} {a : Bool} (hl : lay P T = some (k, a)) (hk : a = false → k = 1) {us : List Value} {off : Nat} (h : off + k ≤ us.length) (w : World) :
    (part T us.toArray off).run P w = .ok (mkV a ((us.drop off).take k)) w := by
  cases a with
  | true =>
    simp only [part, Sem.run_bind, lay_agg hl, Result.andThen_ok, if_true, lay_size hl, Sem.run_pure, mkV]
    congr 2
    apply Array.ext'
    simp [List.take_drop, Nat.add_comm]
  | false =>
    have := hk rfl
    subst this
    have hlt : off < us.length := by omega
    simp only [part, Sem.run_bind, lay_agg hl, Result.andThen_ok, Bool.false_eq_true, if_false, mkV]
    have e2 : us.toArray[off]? = some us[off] := by simp [hlt]
    rw [e2]
    simp only [Sem.run_pure]
    congr 1
    rw [List.headD_eq_head?_getD, List.head?_take]
    simp only [Nat.one_ne_zero, if_false, List.head?_drop, List.getElem?_eq_getElem hlt]
    rfl

/-- The kinds of the cells of a type that '==' compares cell by cell. -/
def partOK (P : Program) (T : TypeId) (n : Nat) : Bool :=
  match lay P T with
  | some (k, a) => k == n && (a || k == 1)
  | none => false
theorem partOK_spec {T n : Nat} (h : partOK P T n = true) : ∃ a, lay P T = some (n, a) ∧ (a = false → n = 1) := by
  unfold partOK at h
  split at h
  · rename_i k a hl
    simp only [Bool.and_eq_true, beq_iff_eq, Bool.or_eq_true] at h
    obtain ⟨rfl, h2⟩ := h
    exact ⟨a, hl, fun ha => by subst ha; simpa using h2⟩
  · cases h
def fieldsPlan (plan : TypeId → Option (List LK)) (P : Program) : Nat → List Field → Option (List LK)
  | _, [] => some []
  | cur, f :: fs =>
    match plan f.type with
    | some ks =>
      if f.name ≠ "_" ∧ f.offset = cur ∧ partOK P f.type ks.length = true then (fieldsPlan plan P (cur + ks.length) fs).map (ks ++ ·) else none
    | none => none
def eqPlan (P : Program) : Nat → TypeId → Option (List LK)
  | 0, _ => none
  | d + 1, T =>
    match P.underlying T with
    | some (.int _) => some [.int]
    | some .bool => some [.bool]
    | some .string => some [.str]
    | some (.struct fs) => if P.stoodInHeld T then none else fieldsPlan (eqPlan P d) P 0 fs.toList
    | some (.array n e) =>
      match eqPlan P d e with
      | some ks => if partOK P e ks.length then some (List.replicate n ks).flatten else none
      | none => none
    | _ => none
def isAggT (P : Program) (T : TypeId) : Bool :=
  match P.underlying T with
  | some d => isAggD d
  | none => false
def eqOK (P : Program) (T : TypeId) : Option (List LK) := if P.eqGuardType P.depth T || !isAggT P T then none else eqPlan P 12 T

theorem leaf_mkV {k : LK} {us vs : List Value} {b : Bool} (h : leafEqs [k] us vs = some b) : ∃ u v, us = [u] ∧ vs = [v] ∧ leafEq k u v = some b := by
  have hl := leafEqs_length h
  match us, vs, hl with
  | [u], [v], _ =>
    simp only [leafEqs] at h
    split at h
    · rename_i x y hx hy
      simp only [Option.some.injEq] at hy h
      subst hy
      exact ⟨u, v, rfl, rfl, by rw [hx, ← h]; simp⟩
    · cases h

def Runs (P : Program) (d : Nat) : Prop := ∀ (T : TypeId) (ks : List LK), eqPlan P d T = some ks → ∀ (e : Nat) (us vs : List Value) (b : Bool) (w : World), leafEqs ks us vs = some b →
  (Op.equalIn (d + e) T (mkV (isAggT P T) us) (mkV (isAggT P T) vs)).run P w = .ok b w

theorem lay_isAgg {T k : Nat} {a : Bool} (h : lay P T = some (k, a)) : isAggT P T = a := by
  unfold lay at h
  unfold isAggT
  split at h
  · rename_i i d hi hd
    simp only [Option.some.injEq, Prod.mk.injEq] at h
    rw [hd, ← h.2]
  · cases h

theorem eqFields_run {d : Nat} (ih : Runs P d) : ∀ (fs : List Field) (cur e : Nat) (ks : List LK) (us vs : List Value) (b : Bool) (w : World), fieldsPlan (eqPlan P d) P cur fs = some ks →
    leafEqs ks (us.drop cur) (vs.drop cur) = some b → cur ≤ us.length → cur ≤ vs.length → (Op.eqFields (d + e) us.toArray vs.toArray fs).run P w = .ok b w
  | [], cur, e, ks, us, vs, b, w, h, hb, hu, hv => by
    simp only [fieldsPlan, Option.some.injEq] at h
    subst h
    have hl := leafEqs_length hb
    have h1 : us.drop cur = [] := List.eq_nil_of_length_eq_zero hl.1
    have h2 : vs.drop cur = [] := List.eq_nil_of_length_eq_zero hl.2
    rw [h1, h2] at hb
    simp only [leafEqs, Option.some.injEq] at hb
    subst hb
    simp [Op.eqFields]
  | f :: fs, cur, e, ks, us, vs, b, w, h, hb, hu, hv => by
    simp only [fieldsPlan] at h
    split at h
    · rename_i k1 hk1
      split at h
      · rename_i hcond
        obtain ⟨hn, hoff, hok⟩ := hcond
        simp only [Option.map_eq_some_iff] at h
        obtain ⟨k2, hk2, rfl⟩ := h
        obtain ⟨a, hl, ha1⟩ := partOK_spec hok
        obtain ⟨x, y, hx, hy, rfl⟩ := leafEqs_split k1 hb
        have hlen := leafEqs_length hb
        simp only [List.length_drop, List.length_append] at hlen
        rw [List.drop_drop, List.drop_drop] at hy
        have h1 := ih f.type k1 hk1 e _ _ x w hx
        rw [lay_isAgg hl] at h1
        simp only [Op.eqFields, if_pos hn, Sem.run_bind, hoff, part_mkV hl ha1 (show cur + k1.length ≤ us.length by omega), part_mkV hl ha1 (show cur + k1.length ≤ vs.length by omega), Result.andThen_ok, h1]
        cases x with
        | true =>
          simp only [Bool.not_true, Bool.false_eq_true, if_false, Bool.true_and]
          exact eqFields_run ih fs (cur + k1.length) e k2 us vs y w hk2 hy (by omega) (by omega)
        | false => simp
      · cases h
    · cases h

/-- The loop over an array's elements. -/
theorem eqArr_run {d : Nat} (ih : Runs P d) {el : TypeId} {ks : List LK} (hk : eqPlan P d el = some ks) (hok : partOK P el ks.length = true) (e : Nat) (us vs : List Value) :
    ∀ (n i : Nat) (b : Bool) (w : World), leafEqs (List.replicate n ks).flatten (us.drop (i * ks.length)) (vs.drop (i * ks.length)) = some b → i * ks.length ≤ us.length → i * ks.length ≤ vs.length →
    (do
      let r ← (forIn (List.range' i n) ((none, ()) : Option Bool × Unit) (fun j (_ : Option Bool × Unit) => do
        let a ← part el us.toArray (j * ks.length)
        let c ← part el vs.toArray (j * ks.length)
        let x ← Op.equalIn (d + e) el a c
        if (!x) = true then pure (ForInStep.done (some false, ())) else pure (ForInStep.yield (none, ()))) : Sem (Option Bool × Unit))
      match r.1 with
      | some x => pure x
      | none => pure true : Sem Bool).run P w = .ok b w
  | 0, i, b, w, hb, _, _ => by
    have hl := leafEqs_length hb
    have h1 : us.drop (i * ks.length) = [] := List.eq_nil_of_length_eq_zero (by simpa using hl.1)
    have h2 : vs.drop (i * ks.length) = [] := List.eq_nil_of_length_eq_zero (by simpa using hl.2)
    rw [h1, h2] at hb
    simp [leafEqs] at hb
    subst hb
    simp
  | n + 1, i, b, w, hb, hu, hv => by
    obtain ⟨a, hl, ha1⟩ := partOK_spec hok
    rw [List.replicate_succ, List.flatten_cons] at hb
    obtain ⟨x, y, hx, hy, rfl⟩ := leafEqs_split ks hb
    have hlen := leafEqs_length hb
    simp only [List.length_drop, List.length_append] at hlen
    rw [List.drop_drop, List.drop_drop, show i * ks.length + ks.length = (i + 1) * ks.length by rw [Nat.add_mul, Nat.one_mul]] at hy
    have h1 := ih el ks hk e _ _ x w hx
    rw [lay_isAgg hl] at h1
    have ihn := eqArr_run ih hk hok e us vs n (i + 1) y w hy (by rw [Nat.add_mul, Nat.one_mul]; omega) (by rw [Nat.add_mul, Nat.one_mul]; omega)
    simp only [List.range'_succ, List.forIn_cons, Sem.run_bind, part_mkV hl ha1 (show i * ks.length + ks.length ≤ us.length by omega), part_mkV hl ha1 (show i * ks.length + ks.length ≤ vs.length by omega), Result.andThen_ok, h1]
    cases x with
    | true =>
      simp only [Bool.not_true, Bool.false_eq_true, if_false, Sem.run_pure, Result.andThen_ok, Bool.true_and]
      simp only [Sem.run_bind] at ihn
      exact ihn
    | false => simp

theorem eqPlan_run : ∀ d, Runs P d
  | 0 => by intro T ks h; cases h
  | d + 1 => by
    intro T ks h e us vs b w hb
    rw [show d + 1 + e = (d + e) + 1 by omega]
    simp only [eqPlan] at h
    split at h
    · rename_i k0 hud
      simp only [Option.some.injEq] at h
      subst h
      obtain ⟨u, v, rfl, rfl, hle⟩ := leaf_mkV hb
      have ha : isAggT P T = false := by unfold isAggT; rw [hud]; rfl
      rw [ha]
      simp only [mkV, Bool.false_eq_true, if_false, List.headD_cons]
      cases u <;> cases v <;> simp only [leafEq, reduceCtorEq] at hle
      rename_i ku x kv y
      split at hle
      · rename_i hkk
        subst hkk
        simp only [Option.some.injEq] at hle
        rw [run_equalIn_int w _ T ku k0 x y hud, hle]
      · cases hle
    · rename_i hud
      simp only [Option.some.injEq] at h
      subst h
      obtain ⟨u, v, rfl, rfl, hle⟩ := leaf_mkV hb
      have ha : isAggT P T = false := by unfold isAggT; rw [hud]; rfl
      rw [ha]
      simp only [mkV, Bool.false_eq_true, if_false, List.headD_cons]
      cases u <;> cases v <;> simp only [leafEq, reduceCtorEq] at hle
      simp only [Option.some.injEq] at hle
      rw [run_equalIn_bool' w _ T _ _ hud, hle]
    · rename_i hud
      simp only [Option.some.injEq] at h
      subst h
      obtain ⟨u, v, rfl, rfl, hle⟩ := leaf_mkV hb
      have ha : isAggT P T = false := by unfold isAggT; rw [hud]; rfl
      rw [ha]
      simp only [mkV, Bool.false_eq_true, if_false, List.headD_cons]
      cases u <;> cases v <;> simp only [leafEq, reduceCtorEq] at hle
      simp only [Option.some.injEq] at hle
      rw [run_equalIn_string w _ T _ _ hud, hle]
    · rename_i fs hud
      split at h
      · cases h
      · rename_i hst
        have ha : isAggT P T = true := by unfold isAggT; rw [hud]; rfl
        rw [ha]
        simp only [mkV, if_true]
        have hfo : P.fieldsOf T = fs := by unfold Program.fieldsOf; rw [hud]
        rw [run_equalIn_struct w (d + e) T _ _ (by rw [hfo]; exact hud) (by simpa using hst), hfo]
        exact eqFields_run (eqPlan_run d) fs.toList 0 e ks us vs b w h (by simpa using hb) (Nat.zero_le _) (Nat.zero_le _)
    · rename_i n el hud
      split at h
      · rename_i k1 hk1
        split at h
        · rename_i hok
          simp only [Option.some.injEq] at h
          subst h
          have ha : isAggT P T = true := by unfold isAggT; rw [hud]; rfl
          rw [ha]
          obtain ⟨a, hl, ha1⟩ := partOK_spec hok
          have := eqArr_run (eqPlan_run d) hk1 hok e us vs n 0 b w (by simpa using hb) (by simp) (by simp)
          simp only [mkV, if_true]
          simp only [Op.equalIn, Sem.run_bind, run_underlying hud, Result.andThen_ok, lay_size hl, Std.Legacy.Range.forIn_eq_forIn_range', Std.Legacy.Range.size]
          simp only [Sem.run_bind] at this
          simp at this ⊢
          rw [← this]
          congr 2
          funext a w'
          obtain ⟨a, _⟩ := a
          cases a <;> rfl
        · cases h
      · cases h
    · cases h

theorem eqAgg_run {T : TypeId} {ks : List LK} (hok : eqOK P T = some ks) {us vs : List Value} {b : Bool} (hb : leafEqs ks us vs = some b) {w : World} :
    (∀ (op : BinOp) (x y : Operand), (eqGuard op T x y (.agg us.toArray) (.agg vs.toArray)).run P w = .ok () w) ∧ (Op.equal T (.agg us.toArray) (.agg vs.toArray)).run P w = .ok b w := by
  unfold eqOK at hok
  split at hok
  · cases hok
  · rename_i hc
    simp only [Bool.or_eq_true, not_or, Bool.not_eq_true, Bool.not_eq_false'] at hc
    refine ⟨fun op x y => run_eqGuard_agg w op T x y _ _ hc.1, ?_⟩
    have := eqPlan_run 12 T ks hok 9988 us vs b w hb
    rw [hc.2] at this
    simp only [mkV, if_true] at this
    exact this

end Go.Pv
