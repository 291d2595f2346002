/- The operations of the compact form are met by the model's own: the operations that give one value. -/
import Derived.Test.YtliglilanpfjhaaLMw
import Derived.Laws.StructEq
namespace Go.Pv
variable {P : Program}

/-! ### How the tables read -/
def isAggD : TypeDesc → Bool
  | .struct _ | .array _ _ => true
  | _ => false
/-- A type's cells, and whether it is a struct or an array. -/
def lay (P : Program) (T : TypeId) : Option (Nat × Bool) :=
  match P.info? T, P.underlying T with
  | some i, some d => some (i.size, isAggD d)
  | _, _ => none
theorem run_typeInfo' {T : TypeId} {i : TypeInfo} (h : P.info? T = some i) (w : World) : (typeInfo T).run P w = .ok i w := by
  simp [typeInfo, h]
theorem lay_size {T k : Nat} {a : Bool} (h : lay P T = some (k, a)) (w : World) : (sizeOf T).run P w = .ok k w := by
  unfold lay at h
  split at h
  · rename_i i d hi hd
    simp only [Option.some.injEq, Prod.mk.injEq] at h
    simp [sizeOf, run_typeInfo' hi, h.1]
  · cases h
theorem lay_agg {T k : Nat} {a : Bool} (h : lay P T = some (k, a)) (w : World) : (isAgg T).run P w = .ok a w := by
  unfold lay at h
  split at h
  · rename_i i d hi hd
    simp only [Option.some.injEq, Prod.mk.injEq] at h
    obtain ⟨_, rfl⟩ := h
    simp only [isAgg, Sem.run_bind, run_underlying hd, Result.andThen_ok]
    cases d <;> rfl
  · cases h

theorem vrep_val {I : Imm} {v : Value} : vrep I (.val v) v := by simp only [vrep]

/-! ### Reading cells -/
theorem cell_row {w : World} {b off : Nat} {arr : Array Value} {T : TypeId} {fz : Nat × Nat} (h : w.heap[b]? = some (.cells arr T fz)) : w.cell? ⟨b, off, none⟩ = arr[off]? := by
  simp [World.cell?, h]
theorem addr_add (b off n : Nat) : (⟨b, off, none⟩ : Addr).add n = ⟨b, off + n, none⟩ := by
  unfold Addr.add
  split
  · rename_i h; subst h; rfl
  · rfl

/-- What a pointer leads into. -/
theorem rowAt_spec {I : Imm} {st : Store} {w : World} (hs : SRep I st w) {p : PV} {v : Value} (hv : vrep I p v) {cs : List PV} {off : Nat} (h : rowAt? st p = some (cs, off)) :
    ∃ b o vs, v = .pointer (some ⟨b, o, none⟩) ∧ vcells I cs vs ∧ ∀ j u, vs[off + j]? = some u → w.cell? ⟨b, o + j, none⟩ = some u := by
  unfold rowAt? at h
  split at h
  · rename_i ds k
    simp only [Option.some.injEq, Prod.mk.injEq] at h
    obtain ⟨rfl, rfl⟩ := h
    simp only [vrep] at hv
    obtain ⟨b, o, vs, rfl, hc, arr, T, fz, hI, hr⟩ := hv
    refine ⟨b, o + k, vs, rfl, hc, fun j u hu => ?_⟩
    rw [cell_row (hs.imm _ _ hI)]
    have := hr (k + j) u hu
    rwa [← Nat.add_assoc] at this
  · rename_i b k
    split at h
    · rename_i T ds hb
      simp only [Option.some.injEq, Prod.mk.injEq] at h
      obtain ⟨rfl, rfl⟩ := h
      simp only [vrep] at hv
      obtain ⟨_, r, hw, vs, rfl, hc⟩ := hs.objs b _ hb
      refine ⟨b, k, vs, hv, hc, fun j u hu => ?_⟩
      rw [cell_row hw]
      simpa using hu
    · cases h
  · cases h

theorem sub_spec {I : Imm} {cs ps : List PV} {vs : List Value} {off k : Nat} (hc : vcells I cs vs) (h : sub cs off k = some ps) :
    vcells I ps ((vs.drop off).take k) ∧ ps.length = k ∧ off + k ≤ vs.length := by
  unfold sub at h
  split at h
  · rename_i hl
    simp only [Option.some.injEq] at h
    subst h
    refine ⟨vcells_take k (vcells_drop off hc), by simp; omega, by rw [← vcells_length hc]; exact hl⟩
  · cases h

theorem run_loadVar_one {T : TypeId} (hl : lay P T = some (1, false)) {w : World} {a : Addr} {u : Value} (h : w.cell? a = some u) : (loadVar T a).run P w = .ok u w := by
  simp [loadVar, lay_agg hl, h]
theorem run_loadVar_k {T k : Nat} {a : Bool} (hl : lay P T = some (k, a)) (ha : a = false) {w : World} {ad : Addr} {u : Value} (h : w.cell? ad = some u) : (loadVar T ad).run P w = .ok u w := by
  subst ha
  simp [loadVar, lay_agg hl, h]
theorem run_loadVar_agg {T k : Nat} (hl : lay P T = some (k, true)) {w : World} {b o : Nat} {us : List Value} (hlen : us.length = k)
    (h : ∀ j u, us[j]? = some u → w.cell? ⟨b, o + j, none⟩ = some u) : (loadVar T ⟨b, o, none⟩).run P w = .ok (.agg us.toArray) w := by
  have := run_loadCells_list (P := P) w ⟨b, o, none⟩ us (fun j v hj => by rw [addr_add]; exact h j v hj)
  rw [hlen] at this
  simp [loadVar, lay_agg hl, lay_size hl, this]

theorem load_sound {T k : Nat} {agg : Bool} (hl : lay P T = some (k, agg)) {st : Store} {ρ : MX → PV} {mx : MX} {K : PV → Prop} (hk : mval (.load k agg mx) ρ st K) :
    ∃ p, K p ∧ ∀ I w v, SRep I st w → vrep I (ρ mx) v → ∃ u, (Instr.loadAt T v).run P w = .ok u w ∧ vrep I p u := by
  simp only [mval] at hk
  split at hk
  · rename_i cs off hr
    cases agg with
    | true =>
      simp only [if_true] at hk
      obtain ⟨ps, hp, hK⟩ := hk
      refine ⟨_, hK, fun I w v hs hv => ?_⟩
      obtain ⟨b, o, vs, rfl, hc, hcell⟩ := rowAt_spec hs hv hr
      obtain ⟨h1, h2, h3⟩ := sub_spec hc hp
      refine ⟨.agg ((vs.drop off).take k).toArray, ?_, by simp only [vrep]; exact ⟨_, rfl, h1⟩⟩
      simp only [Instr.loadAt, Instr.sureAddr, Sem.run_bind, Sem.run_pure, Result.andThen_ok]
      refine run_loadVar_agg hl (by simp; omega) (fun j u hu => ?_)
      rw [List.getElem?_take] at hu
      split at hu
      · rw [List.getElem?_drop] at hu; exact hcell j u hu
      · cases hu
    | false =>
      simp only [Bool.false_eq_true, if_false] at hk
      obtain ⟨p, hp, hK⟩ := hk
      refine ⟨p, hK, fun I w v hs hv => ?_⟩
      obtain ⟨b, o, vs, rfl, hc, hcell⟩ := rowAt_spec hs hv hr
      obtain ⟨u, hu, hpu, _⟩ := vcells_get hc hp
      refine ⟨u, ?_, hpu⟩
      simp only [Instr.loadAt, Instr.sureAddr, Sem.run_bind, Sem.run_pure, Result.andThen_ok]
      exact run_loadVar_k hl rfl (by simpa using hcell 0 u (by simpa using hu))
  · exact hk.elim

/-! ### Binary operations on numbers, strings -/
theorem bin_sound {op : BinOp} {T : TypeId} {p q : PV} {K : PV → Prop} (hk : binPV op p q K) :
    ∃ r, K r ∧ ∀ I w a b (x y : Operand), vrep I p a → vrep I q b → ∃ u, (do eqGuard op T x y a b; binOp op T a b : Sem Value).run P w = .ok u w ∧ vrep I r u := by
  unfold binPV at hk
  split at hk
  · rename_i k a k' b
    have hg : ∀ (w : World) (x y : Operand), (eqGuard op T x y (.int k a) (.int k' b)).run P w = .ok () w := by
      intro w x y
      unfold eqGuard
      split <;> rfl
    split at hk
    · obtain ⟨rfl, h0, hK⟩ := hk
      refine ⟨_, hK, fun I w u v x y hu hv => ?_⟩
      simp only [vrep] at hu hv
      subst hu; subst hv
      refine ⟨_, ?_, vrep_val⟩
      rw [Sem.run_bind, hg]
      simp [binOp, Op.intDiv, h0]
    · obtain ⟨rfl, h0, hK⟩ := hk
      refine ⟨_, hK, fun I w u v x y hu hv => ?_⟩
      simp only [vrep] at hu hv
      subst hu; subst hv
      refine ⟨_, ?_, vrep_val⟩
      rw [Sem.run_bind, hg]
      simp [binOp, Op.intDiv, h0]
    · obtain ⟨h0, hK⟩ := hk
      refine ⟨_, hK, fun I w u v x y hu hv => ?_⟩
      simp only [vrep] at hu hv
      subst hu; subst hv
      refine ⟨_, ?_, vrep_val⟩
      rw [Sem.run_bind, hg]
      simp [binOp, Op.shift, show ¬ b < 0 by omega]
    · obtain ⟨h0, hK⟩ := hk
      refine ⟨_, hK, fun I w u v x y hu hv => ?_⟩
      simp only [vrep] at hu hv
      subst hu; subst hv
      refine ⟨_, ?_, vrep_val⟩
      rw [Sem.run_bind, hg]
      simp [binOp, Op.shift, show ¬ b < 0 by omega]
    · rename_i n1 n2 n3 n4
      split at hk
      · rename_i c hc
        obtain ⟨rfl, hK⟩ := hk
        refine ⟨_, hK, fun I w u v x y hu hv => ?_⟩
        simp only [vrep] at hu hv
        subst hu; subst hv
        refine ⟨_, ?_, vrep_val⟩
        rw [Sem.run_bind, hg]
        cases op <;> simp only [intArithR, Option.some.injEq, reduceCtorEq] at hc <;> subst hc <;> simp [binOp, Op.intArith, Op.intBits]
      · rename_i hn
        split at hk
        · rename_i c hc
          obtain ⟨rfl, hK⟩ := hk
          refine ⟨_, hK, fun I w u v x y hu hv => ?_⟩
          simp only [vrep] at hu hv
          subst hu; subst hv
          refine ⟨_, ?_, vrep_val⟩
          rw [Sem.run_bind, hg]
          cases op <;> simp only [intCmpR, Option.some.injEq, reduceCtorEq] at hc <;> subst hc <;> simp [binOp, Op.intCmp]
        · exact hk.elim
  · rename_i a b
    have hg : ∀ (w : World) (x y : Operand), (eqGuard op T x y (.string a) (.string b)).run P w = .ok () w := by
      intro w x y
      unfold eqGuard
      split <;> rfl
    split at hk
    · obtain ⟨h0, hK⟩ := hk
      refine ⟨_, hK, fun I w u v x y hu hv => ?_⟩
      simp only [vrep] at hu hv
      subst hu; subst hv
      refine ⟨_, ?_, vrep_val⟩
      rw [Sem.run_bind, hg]
      have hmax : IntKind.i64.max = 9223372036854775807 := by decide
      have h1 : ¬ (((a.size + b.size : Nat) : Int) > IntKind.i64.max) := by rw [hmax]; omega
      simp only [Result.andThen_ok, binOp, Op.stringOp, if_neg h1]
      rfl
    · rename_i hne
      split at hk
      · rename_i c hc
        refine ⟨_, hk, fun I w u v x y hu hv => ?_⟩
        simp only [vrep] at hu hv
        subst hu; subst hv
        refine ⟨_, ?_, vrep_val⟩
        rw [Sem.run_bind, hg]
        cases op <;> simp only [strCmpR, Option.some.injEq, reduceCtorEq] at hc <;> first | (subst hc; simp [binOp, Op.stringOp]; done) | exact (hne rfl).elim
      · exact hk.elim
  · exact hk.elim

/-! ### Composite values -/
theorem vcells_setCells {I : Imm} : ∀ {ps : List PV} {us : List Value} {cs : List PV} {vs : List Value} (off : Nat), vcells I ps us → vcells I cs vs →
    vcells I (setCells cs off ps) (setCells vs off us)
  | [], [], _, _, _, _, h => h
  | [], _ :: _, _, _, _, h, _ => by simp [vcells] at h
  | _ :: _, [], _, _, _, h, _ => by simp [vcells] at h
  | _ :: _, _ :: _, _, _, off, h, k => by
    simp only [vcells] at h
    simp only [setCells]
    exact vcells_setCells (off + 1) h.2 (vcells_set h.1.1 h.1.2 off k)
theorem length_setCells {α : Type} : ∀ (ps cs : List α) (off : Nat), (setCells cs off ps).length = cs.length
  | [], _, _ => rfl
  | _ :: ps, cs, off => by simp [setCells, length_setCells ps]

theorem foldl_setCells (off : Nat) : ∀ (us : List Value) (i : Nat) (cells : Array Value),
    ((us.zipIdx i).foldl (fun cs (x : Value × Nat) => cs.setIfInBounds (off + x.2) x.1) cells).toList = setCells cells.toList (off + i) us
  | [], _, _ => rfl
  | u :: us, i, cells => by
    simp only [List.zipIdx_cons, List.foldl_cons, setCells]
    rw [foldl_setCells off us (i + 1)]
    simp [Nat.add_assoc]

inductive All2 {α β : Type} (R : α → β → Prop) : List α → List β → Prop
  | nil : All2 R [] []
  | cons {a : α} {b : β} {as : List α} {bs : List β} (h : R a b) (t : All2 R as bs) : All2 R (a :: as) (b :: bs)

/-- Where a part lies, as the model asks it. -/
theorem fill_sound {I : Imm} {place : Nat → Option (Nat × Nat)} : ∀ (parts : List (Nat × Nat × Nat × PV)) (rp : List (Nat × Value)) (zs : List PV) (vs : List Value) (cs : List PV),
    All2 (fun (q : Nat × Nat × Nat × PV) (r : Nat × Value) => r.1 = q.1 ∧ place q.1 = some (q.2.1, q.2.2.1) ∧ vrep I q.2.2.2 r.2) parts rp → vcells I zs vs →
    fillPV zs (parts.map fun q => (q.2.1, q.2.2.1, q.2.2.2)) = some cs → ∃ us : List Value, Instr.fill place vs.toArray rp = some us.toArray ∧ vcells I cs us
  | [], _, zs, vs, cs, h, hz, hf => by
    cases h
    simp only [List.map_nil, fillPV, Option.some.injEq] at hf
    subst hf
    exact ⟨vs, rfl, hz⟩
  | (i, off, k, p) :: parts, _, zs, vs, cs, h, hz, hf => by
    cases h with
    | cons h1 h2 =>
      rename_i r rp
      obtain ⟨j, v⟩ := r
      obtain ⟨hj, hpl, hv⟩ := h1
      simp only at hj hpl hv
      subst hj
      simp only [List.map_cons, fillPV] at hf
      split at hf
      · rename_i ps hps
        split at hf
        · rename_i hc
          have hcs := PV.cells_spec hv hps
          have hl := vcells_length hcs
          have hzl := vcells_length hz
          obtain ⟨us, hus, hcu⟩ := fill_sound parts rp (setCells zs off ps) (setCells vs off v.cells.toList) cs h2 (vcells_setCells off hcs hz) hf
          refine ⟨us, ?_, hcu⟩
          unfold Instr.fill
          simp only [hpl]
          have hsz : v.cells.size = k := by rw [← hc.1, hl]; simp
          have hnot : ¬ (v.cells.size ≠ k ∨ off + v.cells.size > vs.toArray.size) := by
            simp only [List.size_toArray]
            omega
          have hb : (decide (v.cells.size ≠ k) || decide (off + v.cells.size > vs.toArray.size)) = false := by
            rw [Bool.or_eq_false_iff]
            exact ⟨by simpa using hsz, by simp only [List.size_toArray]; simp; omega⟩
          rw [if_neg (by rw [hb]; simp)]
          rw [← hus]
          congr 1
          apply Array.ext'
          have := foldl_setCells off v.cells.toList 0 vs.toArray
          simp only [Nat.add_zero] at this
          rw [← Array.foldl_toList, Array.toList_zipIdx]
          exact this
        · cases hf
      · cases hf

/-- Zero cells of a type. -/
def zcells (P : Program) (T : TypeId) : Option (List PV) :=
  match P.info? T with
  | some i =>
    match i.zero with
    | some z => if z.cells.size = i.size ∧ z.cells.toList.all Value.oneCell' = true then some (z.cells.toList.map .val) else none
    | none => none
  | none => none
theorem vcells_val {I : Imm} : ∀ {vs : List Value}, vs.all Value.oneCell' = true → vcells I (vs.map .val) vs
  | [], _ => by simp [vcells]
  | v :: vs, h => by
    simp only [List.all_cons, Bool.and_eq_true] at h
    simp only [List.map_cons, vcells]
    exact ⟨⟨vrep_val, h.1⟩, vcells_val h.2⟩
theorem zcells_spec {T : TypeId} {zs : List PV} (h : zcells P T = some zs) : ∃ i z, P.info? T = some i ∧ i.zero = some z ∧ z.cells.size = i.size ∧ z.cells.toList.all Value.oneCell' = true ∧ zs = z.cells.toList.map .val ∧ ∀ I, vcells I zs z.cells.toList := by
  unfold zcells at h
  split at h
  · rename_i i hi
    split at h
    · rename_i z hz
      split at h
      · rename_i hc
        simp only [Option.some.injEq] at h
        subst h
        exact ⟨i, z, hi, hz, hc.1, hc.2, rfl, fun I => vcells_val hc.2⟩
      · cases h
    · cases h
  · cases h
theorem run_zeroValue' {T : TypeId} {i : TypeInfo} {z : Value} (hi : P.info? T = some i) (hz : i.zero = some z) (w : World) : (zeroValue T).run P w = .ok z w := by
  simp [zeroValue, run_typeInfo' hi, hz]

/-! ### Operands -/
def pvOf : Value → PV
  | .agg cs => .agg (cs.toList.map .val)
  | .func fn a b => if a.size = 0 ∧ b.size = 0 then .func fn [] [] else .val (.func fn a b)
  | .iface t v => .iface t (.val v)
  | v => .val v
def okConst : Value → Bool
  | .agg cs => cs.toList.all Value.oneCell'
  | _ => true
theorem pvOf_spec {I : Imm} {v : Value} (h : okConst v = true) : vrep I (pvOf v) v := by
  cases v with
  | agg cs =>
    simp only [okConst] at h
    simp only [pvOf, vrep]
    exact ⟨cs.toList, by simp, vcells_val h⟩
  | func fn a b =>
    simp only [pvOf]
    split
    · rename_i h2
      obtain ⟨ha, hb⟩ := h2
      obtain rfl := Array.eq_empty_of_size_eq_zero ha
      obtain rfl := Array.eq_empty_of_size_eq_zero hb
      simp only [vrep]; exact ⟨[], [], rfl, by simp [vreps], by simp [vreps]⟩
    · exact vrep_val
  | iface t v => simp only [pvOf, vrep]; exact ⟨_, rfl, by simp⟩
  | _ => exact vrep_val
def convX : Operand → Option MX
  | .tmp t => some (.tmp t)
  | .const v => if okConst v then some (.const (pvOf v)) else none
  | .global g => some (.const (.val (.pointer (some ⟨g, 0, none⟩))))
  | .func f => some (.const (.func (.func f) [] []))

/-- The model's operand values stand for the pure ones. -/
def XRep (I : Imm) (ρ : MX → PV) (ev : Operand → Value) (xs : List Operand) : Prop := ∀ x ∈ xs, ∀ m, convX x = some m → vrep I (ρ m) (ev x)

end Go.Pv
/- '==' on structs and arrays of plain cells. -/
set_option linter.unusedSimpArgs false
namespace Go.Pv
variable {P : Program}

def leafEq : LK → Value → Value → Option Bool
  | .int, .int k a, .int k' b => if k = k' then some (a == b) else none
  | .bool, .bool a, .bool b => some (a == b)
  | .str, .string a, .string b => some (a.toList == b.toList)
  | _, _, _ => none
def leafEqs : List LK → List Value → List Value → Option Bool
  | [], [], [] => some true
  | k :: ks, u :: us, v :: vs =>
    match leafEq k u v, leafEqs ks us vs with
    | some a, some b => some (a && b)
    | _, _ => none
  | _, _, _ => none

theorem eqLeaf_leaf {I : Imm} {l : LK} {p q : PV} {u v : Value} (h : vrep I p u) (k : vrep I q v) {b : Bool} (hb : eqLeaf l p q = some b) : leafEq l u v = some b := by
  unfold eqLeaf at hb
  split at hb <;> first | (simp only [vrep] at h k; subst h; subst k; simpa [leafEq] using hb) | cases hb
theorem eqCells_leaf {I : Imm} : ∀ {ls : List LK} {ps qs : List PV} {us vs : List Value} {b : Bool}, vcells I ps us → vcells I qs vs → eqCells ls ps qs = some b → leafEqs ls us vs = some b
  | [], [], [], us, vs, b, h, k, hb => by
    have h1 := vcells_length h
    have h2 := vcells_length k
    match us, vs, h1, h2 with
    | [], [], _, _ => simpa [leafEqs, eqCells] using hb
  | [], [], _ :: _, _, _, _, _, _, hb => by simp [eqCells] at hb
  | [], _ :: _, _, _, _, _, _, _, hb => by simp [eqCells] at hb
  | _ :: _, [], _, _, _, _, _, _, hb => by simp [eqCells] at hb
  | _ :: _, _ :: _, [], _, _, _, _, _, hb => by simp [eqCells] at hb
  | l :: ls, p :: ps, q :: qs, [], _, _, h, _, _ => by simp [vcells] at h
  | l :: ls, p :: ps, q :: qs, _ :: _, [], _, _, k, _ => by simp [vcells] at k
  | l :: ls, p :: ps, q :: qs, u :: us, v :: vs, b, h, k, hb => by
    simp only [vcells] at h k
    simp only [eqCells] at hb
    split at hb
    · rename_i a b' ha hb'
      simp only [Option.some.injEq] at hb
      subst hb
      simp only [leafEqs, eqLeaf_leaf h.1.1 k.1.1 ha, eqCells_leaf h.2 k.2 hb']
    · cases hb

theorem leafEqs_length : ∀ {ls : List LK} {us vs : List Value} {b : Bool}, leafEqs ls us vs = some b → us.length = ls.length ∧ vs.length = ls.length
  | [], [], [], _, _ => ⟨rfl, rfl⟩
  | [], [], _ :: _, _, h => by simp [leafEqs] at h
  | [], _ :: _, _, _, h => by simp [leafEqs] at h
  | _ :: _, [], _, _, h => by simp [leafEqs] at h
  | _ :: _, _ :: _, [], _, h => by simp [leafEqs] at h
  | _ :: ls, u :: us, v :: vs, b, h => by
    simp only [leafEqs] at h
    split at h
    · rename_i hb
      have := leafEqs_length hb
      simp [this.1, this.2]
    · cases h
theorem leafEqs_split : ∀ (l1 : List LK) {l2 : List LK} {us vs : List Value} {b : Bool}, leafEqs (l1 ++ l2) us vs = some b →
    ∃ a c, leafEqs l1 (us.take l1.length) (vs.take l1.length) = some a ∧ leafEqs l2 (us.drop l1.length) (vs.drop l1.length) = some c ∧ b = (a && c)
  | [], l2, us, vs, b, h => ⟨true, b, by simp [leafEqs], by simpa using h, by simp⟩
  | l :: l1, l2, [], vs, b, h => by simp [leafEqs] at h
  | l :: l1, l2, _ :: _, [], _, h => by simp [leafEqs] at h
  | l :: l1, l2, u :: us, v :: vs, b, h => by
    simp only [List.cons_append, leafEqs] at h
    split at h
    · rename_i x y hx hy
      simp only [Option.some.injEq] at h
      obtain ⟨a, c, h1, h2, h3⟩ := leafEqs_split l1 hy
      refine ⟨x && a, c, ?_, by simpa using h2, by rw [← h, h3, Bool.and_assoc]⟩
      simp only [List.length_cons, List.take_succ_cons, leafEqs, hx, h1]
    · cases h

/-- A value out of its cells. -/
def mkV (a : Bool) (us : List Value) : Value := if a then .agg us.toArray else us.headD undef

theorem part_mkV {T k : Nat} {a : Bool} (hl : lay P T = some (k, a)) (hk : a = false → k = 1) {us : List Value} {off : Nat} (h : off + k ≤ us.length) (w : World) :
    (part T us.toArray off).run P w = .ok (mkV a ((us.drop off).take k)) w := by
  cases a with
  | true =>
    simp only [part, Sem.run_bind, lay_agg hl, Result.andThen_ok, if_true, lay_size hl, Sem.run_pure, mkV]
    congr 2
    apply Array.ext'
    simp [List.take_drop, Nat.add_comm]
  | false =>
    have := hk rfl
    subst this
    have hlt : off < us.length := by omega
    simp only [part, Sem.run_bind, lay_agg hl, Result.andThen_ok, Bool.false_eq_true, if_false, mkV]
    have e2 : us.toArray[off]? = some us[off] := by simp [hlt]
    rw [e2]
    simp only [Sem.run_pure]
    congr 1
    rw [List.headD_eq_head?_getD, List.head?_take]
    simp only [Nat.one_ne_zero, if_false, List.head?_drop, List.getElem?_eq_getElem hlt]
    rfl

/-- The kinds of the cells of a type that '==' compares cell by cell. -/
def partOK (P : Program) (T : TypeId) (n : Nat) : Bool :=
  match lay P T with
  | some (k, a) => k == n && (a || k == 1)
  | none => false
theorem partOK_spec {T n : Nat} (h : partOK P T n = true) : ∃ a, lay P T = some (n, a) ∧ (a = false → n = 1) := by
  unfold partOK at h
  split at h
  · rename_i k a hl
    simp only [Bool.and_eq_true, beq_iff_eq, Bool.or_eq_true] at h
    obtain ⟨rfl, h2⟩ := h
    exact ⟨a, hl, fun ha => by subst ha; simpa using h2⟩
  · cases h
def fieldsPlan (plan : TypeId → Option (List LK)) (P : Program) : Nat → List Field → Option (List LK)
  | _, [] => some []
  | cur, f :: fs =>
    match plan f.type with
    | some ks =>
      if f.name ≠ "_" ∧ f.offset = cur ∧ partOK P f.type ks.length = true then (fieldsPlan plan P (cur + ks.length) fs).map (ks ++ ·) else none
    | none => none
def eqPlan (P : Program) : Nat → TypeId → Option (List LK)
  | 0, _ => none
  | d + 1, T =>
    match P.underlying T with
    | some (.int _) => some [.int]
    | some .bool => some [.bool]
    | some .string => some [.str]
    | some (.struct fs) => if P.stoodInHeld T then none else fieldsPlan (eqPlan P d) P 0 fs.toList
    | some (.array n e) =>
      match eqPlan P d e with
      | some ks => if partOK P e ks.length then some (List.replicate n ks).flatten else none
      | none => none
    | _ => none
def isAggT (P : Program) (T : TypeId) : Bool :=
  match P.underlying T with
  | some d => isAggD d
  | none => false
def eqOK (P : Program) (T : TypeId) : Option (List LK) := if P.eqGuardType P.depth T || !isAggT P T then none else eqPlan P 12 T

theorem leaf_mkV {k : LK} {us vs : List Value} {b : Bool} (h : leafEqs [k] us vs = some b) : ∃ u v, us = [u] ∧ vs = [v] ∧ leafEq k u v = some b := by
  have hl := leafEqs_length h
  match us, vs, hl with
  | [u], [v], _ =>
    simp only [leafEqs] at h
    split at h
    · rename_i x y hx hy
      simp only [Option.some.injEq] at hy h
      subst hy
      exact ⟨u, v, rfl, rfl, by rw [hx, ← h]; simp⟩
    · cases h

def Runs (P : Program) (d : Nat) : Prop := ∀ (T : TypeId) (ks : List LK), eqPlan P d T = some ks → ∀ (e : Nat) (us vs : List Value) (b : Bool) (w : World), leafEqs ks us vs = some b →
  (Op.equalIn (d + e) T (mkV (isAggT P T) us) (mkV (isAggT P T) vs)).run P w = .ok b w

theorem lay_isAgg {T k : Nat} {a : Bool} (h : lay P T = some (k, a)) : isAggT P T = a := by
  unfold lay at h
  unfold isAggT
  split at h
  · rename_i i d hi hd
    simp only [Option.some.injEq, Prod.mk.injEq] at h
    rw [hd, ← h.2]
  · cases h

theorem eqFields_run {d : Nat} (ih : Runs P d) : ∀ (fs : List Field) (cur e : Nat) (ks : List LK) (us vs : List Value) (b : Bool) (w : World), fieldsPlan (eqPlan P d) P cur fs = some ks →
    leafEqs ks (us.drop cur) (vs.drop cur) = some b → cur ≤ us.length → cur ≤ vs.length → (Op.eqFields (d + e) us.toArray vs.toArray fs).run P w = .ok b w
  | [], cur, e, ks, us, vs, b, w, h, hb, hu, hv => by
    simp only [fieldsPlan, Option.some.injEq] at h
    subst h
    have hl := leafEqs_length hb
    have h1 : us.drop cur = [] := List.eq_nil_of_length_eq_zero hl.1
    have h2 : vs.drop cur = [] := List.eq_nil_of_length_eq_zero hl.2
    rw [h1, h2] at hb
    simp only [leafEqs, Option.some.injEq] at hb
    subst hb
    simp [Op.eqFields]
  | f :: fs, cur, e, ks, us, vs, b, w, h, hb, hu, hv => by
    simp only [fieldsPlan] at h
    split at h
    · rename_i k1 hk1
      split at h
      · rename_i hcond
        obtain ⟨hn, hoff, hok⟩ := hcond
        simp only [Option.map_eq_some_iff] at h
        obtain ⟨k2, hk2, rfl⟩ := h
        obtain ⟨a, hl, ha1⟩ := partOK_spec hok
        obtain ⟨x, y, hx, hy, rfl⟩ := leafEqs_split k1 hb
        have hlen := leafEqs_length hb
        simp only [List.length_drop, List.length_append] at hlen
        rw [List.drop_drop, List.drop_drop] at hy
        have h1 := ih f.type k1 hk1 e _ _ x w hx
        rw [lay_isAgg hl] at h1
        simp only [Op.eqFields, if_pos hn, Sem.run_bind, hoff, part_mkV hl ha1 (show cur + k1.length ≤ us.length by omega), part_mkV hl ha1 (show cur + k1.length ≤ vs.length by omega), Result.andThen_ok, h1]
        cases x with
        | true =>
          simp only [Bool.not_true, Bool.false_eq_true, if_false, Bool.true_and]
          exact eqFields_run ih fs (cur + k1.length) e k2 us vs y w hk2 hy (by omega) (by omega)
        | false => simp
      · cases h
    · cases h

/-- The loop over an array's elements. -/
theorem eqArr_run {d : Nat} (ih : Runs P d) {el : TypeId} {ks : List LK} (hk : eqPlan P d el = some ks) (hok : partOK P el ks.length = true) (e : Nat) (us vs : List Value) :
    ∀ (n i : Nat) (b : Bool) (w : World), leafEqs (List.replicate n ks).flatten (us.drop (i * ks.length)) (vs.drop (i * ks.length)) = some b → i * ks.length ≤ us.length → i * ks.length ≤ vs.length →
    (do
      let r ← (forIn (List.range' i n) ((none, ()) : Option Bool × Unit) (fun j (_ : Option Bool × Unit) => do
        let a ← part el us.toArray (j * ks.length)
        let c ← part el vs.toArray (j * ks.length)
        let x ← Op.equalIn (d + e) el a c
        if (!x) = true then pure (ForInStep.done (some false, ())) else pure (ForInStep.yield (none, ()))) : Sem (Option Bool × Unit))
      match r.1 with
      | some x => pure x
      | none => pure true : Sem Bool).run P w = .ok b w
  | 0, i, b, w, hb, _, _ => by
    have hl := leafEqs_length hb
    have h1 : us.drop (i * ks.length) = [] := List.eq_nil_of_length_eq_zero (by simpa using hl.1)
    have h2 : vs.drop (i * ks.length) = [] := List.eq_nil_of_length_eq_zero (by simpa using hl.2)
    rw [h1, h2] at hb
    simp [leafEqs] at hb
    subst hb
    simp
  | n + 1, i, b, w, hb, hu, hv => by
    obtain ⟨a, hl, ha1⟩ := partOK_spec hok
    rw [List.replicate_succ, List.flatten_cons] at hb
    obtain ⟨x, y, hx, hy, rfl⟩ := leafEqs_split ks hb
    have hlen := leafEqs_length hb
    simp only [List.length_drop, List.length_append] at hlen
    rw [List.drop_drop, List.drop_drop, show i * ks.length + ks.length = (i + 1) * ks.length by rw [Nat.add_mul, Nat.one_mul]] at hy
    have h1 := ih el ks hk e _ _ x w hx
    rw [lay_isAgg hl] at h1
    have ihn := eqArr_run ih hk hok e us vs n (i + 1) y w hy (by rw [Nat.add_mul, Nat.one_mul]; omega) (by rw [Nat.add_mul, Nat.one_mul]; omega)
    simp only [List.range'_succ, List.forIn_cons, Sem.run_bind, part_mkV hl ha1 (show i * ks.length + ks.length ≤ us.length by omega), part_mkV hl ha1 (show i * ks.length + ks.length ≤ vs.length by omega), Result.andThen_ok, h1]
    cases x with
    | true =>
      simp only [Bool.not_true, Bool.false_eq_true, if_false, Sem.run_pure, Result.andThen_ok, Bool.true_and]
      simp only [Sem.run_bind] at ihn
      exact ihn
    | false => simp

theorem eqPlan_run : ∀ d, Runs P d
  | 0 => by intro T ks h; cases h
  | d + 1 => by
    intro T ks h e us vs b w hb
    rw [show d + 1 + e = (d + e) + 1 by omega]
    simp only [eqPlan] at h
    split at h
    · rename_i k0 hud
      simp only [Option.some.injEq] at h
      subst h
      obtain ⟨u, v, rfl, rfl, hle⟩ := leaf_mkV hb
      have ha : isAggT P T = false := by unfold isAggT; rw [hud]; rfl
      rw [ha]
      simp only [mkV, Bool.false_eq_true, if_false, List.headD_cons]
      cases u <;> cases v <;> simp only [leafEq, reduceCtorEq] at hle
      rename_i ku x kv y
      split at hle
      · rename_i hkk
        subst hkk
        simp only [Option.some.injEq] at hle
        rw [run_equalIn_int w _ T ku k0 x y hud, hle]
      · cases hle
    · rename_i hud
      simp only [Option.some.injEq] at h
      subst h
      obtain ⟨u, v, rfl, rfl, hle⟩ := leaf_mkV hb
      have ha : isAggT P T = false := by unfold isAggT; rw [hud]; rfl
      rw [ha]
      simp only [mkV, Bool.false_eq_true, if_false, List.headD_cons]
      cases u <;> cases v <;> simp only [leafEq, reduceCtorEq] at hle
      simp only [Option.some.injEq] at hle
      rw [run_equalIn_bool' w _ T _ _ hud, hle]
    · rename_i hud
      simp only [Option.some.injEq] at h
      subst h
      obtain ⟨u, v, rfl, rfl, hle⟩ := leaf_mkV hb
      have ha : isAggT P T = false := by unfold isAggT; rw [hud]; rfl
      rw [ha]
      simp only [mkV, Bool.false_eq_true, if_false, List.headD_cons]
      cases u <;> cases v <;> simp only [leafEq, reduceCtorEq] at hle
      simp only [Option.some.injEq] at hle
      rw [run_equalIn_string w _ T _ _ hud, hle]
    · rename_i fs hud
      split at h
      · cases h
      · rename_i hst
        have ha : isAggT P T = true := by unfold isAggT; rw [hud]; rfl
        rw [ha]
        simp only [mkV, if_true]
        have hfo : P.fieldsOf T = fs := by unfold Program.fieldsOf; rw [hud]
        rw [run_equalIn_struct w (d + e) T _ _ (by rw [hfo]; exact hud) (by simpa using hst), hfo]
        exact eqFields_run (eqPlan_run d) fs.toList 0 e ks us vs b w h (by simpa using hb) (Nat.zero_le _) (Nat.zero_le _)
    · rename_i n el hud
      split at h
      · rename_i k1 hk1
        split at h
        · rename_i hok
          simp only [Option.some.injEq] at h
          subst h
          have ha : isAggT P T = true := by unfold isAggT; rw [hud]; rfl
          rw [ha]
          obtain ⟨a, hl, ha1⟩ := partOK_spec hok
          have := eqArr_run (eqPlan_run d) hk1 hok e us vs n 0 b w (by simpa using hb) (by simp) (by simp)
          simp only [mkV, if_true]
          simp only [Op.equalIn, Sem.run_bind, run_underlying hud, Result.andThen_ok, lay_size hl, Std.Legacy.Range.forIn_eq_forIn_range', Std.Legacy.Range.size]
          simp only [Sem.run_bind] at this
          simp at this ⊢
          rw [← this]
          congr 2
          funext a w'
          obtain ⟨a, _⟩ := a
          cases a <;> rfl
        · cases h
      · cases h
    · cases h

theorem eqAgg_run {T : TypeId} {ks : List LK} (hok : eqOK P T = some ks) {us vs : List Value} {b : Bool} (hb : leafEqs ks us vs = some b) {w : World} :
    (∀ (op : BinOp) (x y : Operand), (eqGuard op T x y (.agg us.toArray) (.agg vs.toArray)).run P w = .ok () w) ∧ (Op.equal T (.agg us.toArray) (.agg vs.toArray)).run P w = .ok b w := by
  unfold eqOK at hok
  split at hok
  · cases hok
  · rename_i hc
    simp only [Bool.or_eq_true, not_or, Bool.not_eq_true, Bool.not_eq_false'] at hc
    refine ⟨fun op x y => run_eqGuard_agg w op T x y _ _ hc.1, ?_⟩
    have := eqPlan_run 12 T ks hok 9988 us vs b w hb
    rw [hc.2] at this
    simp only [mkV, if_true] at this
    exact this

end Go.Pv
