/- The operations of the compact form are met by the model's own: the operations that give one value. -/
import Derived.Test.YtbjfmedpaohpnaaLMw
namespace Go.Pv
variable {P : Program}

/-! ### How the tables read -/
def isAggD : TypeDesc → Bool
  | .struct _ | .array _ _ => true
  | _ => false
/-- A type's cells, and whether it is a struct or an array. -/
def lay (P : Program) (T : TypeId) : Option (Nat × Bool) :=
  match P.info? T, P.underlying T with
  | some i, some d => some (i.size, isAggD d)
  | _, _ => none
theorem run_typeInfo' {T : TypeId} {i : TypeInfo} (h : P.info? T = some i) (w : World) : (typeInfo T).run P w = .ok i w := by
  simp [typeInfo, h]
theorem lay_size {T k : Nat} {a : Bool} (h : lay P T = some (k, a)) (w : World) : (sizeOf T).run P w = .ok k w := by
  unfold lay at h
  split at h
  · rename_i i d hi hd
    simp only [Option.some.injEq, Prod.mk.injEq] at h
    simp [sizeOf, run_typeInfo' hi, h.1]
  · cases h
theorem lay_agg {T k : Nat} {a : Bool} (h : lay P T = some (k, a)) (w : World) : (isAgg T).run P w = .ok a w := by
  unfold lay at h
  split at h
  · rename_i i d hi hd
    simp only [Option.some.injEq, Prod.mk.injEq] at h
    obtain ⟨_, rfl⟩ := h
    simp only [isAgg, Sem.run_bind, run_underlying hd, Result.andThen_ok]
    cases d <;> rfl
  · cases h

theorem vrep_val {I : Imm} {v : Value} : vrep I (.val v) v := by simp only [vrep]

/-! ### Reading cells -/
theorem cell_row {w : World} {b off : Nat} {arr : Array Value} {T : TypeId} {fz : Nat × Nat} (h : w.heap[b]? = some (.cells arr T fz)) : w.cell? ⟨b, off, none⟩ = arr[off]? := by
  simp [World.cell?, h]
theorem addr_add (b off n : Nat) : (⟨b, off, none⟩ : Addr).add n = ⟨b, off + n, none⟩ := by
  unfold Addr.add
  split
  · rename_i h; subst h; rfl
  · rfl

/-- What a pointer leads into. -/
theorem rowAt_spec {I : Imm} {st : Store} {w : World} (hs : SRep I st w) {p : PV} {v : Value} (hv : vrep I p v) {cs : List PV} {off : Nat} (h : rowAt? st p = some (cs, off)) :
    ∃ b o vs, v = .pointer (some ⟨b, o, none⟩) ∧ vcells I cs vs ∧ ∀ j u, vs[off + j]? = some u → w.cell? ⟨b, o + j, none⟩ = some u := by
  unfold rowAt? at h
  split at h
  · rename_i ds k
    simp only [Option.some.injEq, Prod.mk.injEq] at h
    obtain ⟨rfl, rfl⟩ := h
    simp only [vrep] at hv
    obtain ⟨b, o, vs, rfl, hc, arr, T, fz, hI, hr⟩ := hv
    refine ⟨b, o + k, vs, rfl, hc, fun j u hu => ?_⟩
    rw [cell_row (hs.imm _ _ hI)]
    have := hr (k + j) u hu
    rwa [← Nat.add_assoc] at this
  · rename_i b k
    split at h
    · rename_i T ds hb
      simp only [Option.some.injEq, Prod.mk.injEq] at h
      obtain ⟨rfl, rfl⟩ := h
      simp only [vrep] at hv
      obtain ⟨_, r, hw, vs, rfl, hc⟩ := hs.objs b _ hb
      refine ⟨b, k, vs, hv, hc, fun j u hu => ?_⟩
      rw [cell_row hw]
      simpa using hu
    · cases h
  · cases h

theorem sub_spec {I : Imm} {cs ps : List PV} {vs : List Value} {off k : Nat} (hc : vcells I cs vs) (h : sub cs off k = some ps) :
    vcells I ps ((vs.drop off).take k) ∧ ps.length = k ∧ off + k ≤ vs.length := by
  unfold sub at h
  split at h
  · rename_i hl
    simp only [Option.some.injEq] at h
    subst h
    refine ⟨vcells_take k (vcells_drop off hc), by simp; omega, by rw [← vcells_length hc]; exact hl⟩
  · cases h

theorem run_loadVar_one {T : TypeId} (hl : lay P T = some (1, false)) {w : World} {a : Addr} {u : Value} (h : w.cell? a = some u) : (loadVar T a).run P w = .ok u w := by
  simp [loadVar, lay_agg hl, h]
theorem run_loadVar_k {T k : Nat} {a : Bool} (hl : lay P T = some (k, a)) (ha : a = false) {w : World} {ad : Addr} {u : Value} (h : w.cell? ad = some u) : (loadVar T ad).run P w = .ok u w := by
  subst ha
  simp [loadVar, lay_agg hl, h]
theorem run_loadVar_agg {T k : Nat} (hl : lay P T = some (k, true)) {w : World} {b o : Nat} {us : List Value} (hlen : us.length = k)
    (h : ∀ j u, us[j]? = some u → w.cell? ⟨b, o + j, none⟩ = some u) : (loadVar T ⟨b, o, none⟩).run P w = .ok (.agg us.toArray) w := by
  have := run_loadCells_list (P := P) w ⟨b, o, none⟩ us (fun j v hj => by rw [addr_add]; exact h j v hj)
  rw [hlen] at this
  simp [loadVar, lay_agg hl, lay_size hl, this]

theorem load_sound {T k : Nat} {agg : Bool} (hl : lay P T = some (k, agg)) {st : Store} {ρ : MX → PV} {mx : MX} {K : PV → Prop} (hk : mval (.load k agg mx) ρ st K) :
    ∃ p, K p ∧ ∀ I w v, SRep I st w → vrep I (ρ mx) v → ∃ u, (Instr.loadAt T v).run P w = .ok u w ∧ vrep I p u := by
  simp only [mval] at hk
  split at hk
  · rename_i cs off hr
    cases agg with
    | true =>
      simp only [if_true] at hk
      obtain ⟨ps, hp, hK⟩ := hk
      refine ⟨_, hK, fun I w v hs hv => ?_⟩
      obtain ⟨b, o, vs, rfl, hc, hcell⟩ := rowAt_spec hs hv hr
      obtain ⟨h1, h2, h3⟩ := sub_spec hc hp
      refine ⟨.agg ((vs.drop off).take k).toArray, ?_, by simp only [vrep]; exact ⟨_, rfl, h1⟩⟩
      simp only [Instr.loadAt, Instr.sureAddr, Sem.run_bind, Sem.run_pure, Result.andThen_ok]
      refine run_loadVar_agg hl (by simp; omega) (fun j u hu => ?_)
      rw [List.getElem?_take] at hu
      split at hu
      · rw [List.getElem?_drop] at hu; exact hcell j u hu
      · cases hu
    | false =>
      simp only [Bool.false_eq_true, if_false] at hk
      obtain ⟨p, hp, hK⟩ := hk
      refine ⟨p, hK, fun I w v hs hv => ?_⟩
      obtain ⟨b, o, vs, rfl, hc, hcell⟩ := rowAt_spec hs hv hr
      obtain ⟨u, hu, hpu, _⟩ := vcells_get hc hp
      refine ⟨u, ?_, hpu⟩
      simp only [Instr.loadAt, Instr.sureAddr, Sem.run_bind, Sem.run_pure, Result.andThen_ok]
      exact run_loadVar_k hl rfl (by simpa using hcell 0 u (by simpa using hu))
  · exact hk.elim

/-! ### Binary operations on numbers, strings -/
theorem bin_sound {op : BinOp} {T : TypeId} {p q : PV} {K : PV → Prop} (hk : binPV op p q K) :
    ∃ r, K r ∧ ∀ I w a b (x y : Operand), vrep I p a → vrep I q b → ∃ u, (do eqGuard op T x y a b; binOp op T a b : Sem Value).run P w = .ok u w ∧ vrep I r u := by
  unfold binPV at hk
  split at hk
  · rename_i k a k' b
    have hg : ∀ (w : World) (x y : Operand), (eqGuard op T x y (.int k a) (.int k' b)).run P w = .ok () w := by
      intro w x y
      unfold eqGuard
      split <;> rfl
    split at hk
    · obtain ⟨rfl, h0, hK⟩ := hk
      refine ⟨_, hK, fun I w u v x y hu hv => ?_⟩
      simp only [vrep] at hu hv
      subst hu; subst hv
      refine ⟨_, ?_, vrep_val⟩
      rw [Sem.run_bind, hg]
      simp [binOp, Op.intDiv, h0]
    · obtain ⟨rfl, h0, hK⟩ := hk
      refine ⟨_, hK, fun I w u v x y hu hv => ?_⟩
      simp only [vrep] at hu hv
      subst hu; subst hv
      refine ⟨_, ?_, vrep_val⟩
      rw [Sem.run_bind, hg]
      simp [binOp, Op.intDiv, h0]
    · obtain ⟨h0, hK⟩ := hk
      refine ⟨_, hK, fun I w u v x y hu hv => ?_⟩
      simp only [vrep] at hu hv
      subst hu; subst hv
      refine ⟨_, ?_, vrep_val⟩
      rw [Sem.run_bind, hg]
      simp [binOp, Op.shift, show ¬ b < 0 by omega]
    · obtain ⟨h0, hK⟩ := hk
      refine ⟨_, hK, fun I w u v x y hu hv => ?_⟩
      simp only [vrep] at hu hv
      subst hu; subst hv
      refine ⟨_, ?_, vrep_val⟩
      rw [Sem.run_bind, hg]
      simp [binOp, Op.shift, show ¬ b < 0 by omega]
    · rename_i n1 n2 n3 n4
      split at hk
      · rename_i c hc
        obtain ⟨rfl, hK⟩ := hk
        refine ⟨_, hK, fun I w u v x y hu hv => ?_⟩
        simp only [vrep] at hu hv
        subst hu; subst hv
        refine ⟨_, ?_, vrep_val⟩
        rw [Sem.run_bind, hg]
        cases op <;> simp only [intArithR, Option.some.injEq, reduceCtorEq] at hc <;> subst hc <;> simp [binOp, Op.intArith, Op.intBits]
      · rename_i hn
        split at hk
        · rename_i c hc
          obtain ⟨rfl, hK⟩ := hk
          refine ⟨_, hK, fun I w u v x y hu hv => ?_⟩
          simp only [vrep] at hu hv
          subst hu; subst hv
          refine ⟨_, ?_, vrep_val⟩
          rw [Sem.run_bind, hg]
          cases op <;> simp only [intCmpR, Option.some.injEq, reduceCtorEq] at hc <;> subst hc <;> simp [binOp, Op.intCmp]
        · exact hk.elim
  · rename_i a b
    have hg : ∀ (w : World) (x y : Operand), (eqGuard op T x y (.string a) (.string b)).run P w = .ok () w := by
      intro w x y
      unfold eqGuard
      split <;> rfl
    split at hk
    · obtain ⟨h0, hK⟩ := hk
      refine ⟨_, hK, fun I w u v x y hu hv => ?_⟩
      simp only [vrep] at hu hv
      subst hu; subst hv
      refine ⟨_, ?_, vrep_val⟩
      rw [Sem.run_bind, hg]
      have hmax : IntKind.i64.max = 9223372036854775807 := by decide
      have h1 : ¬ (((a.size + b.size : Nat) : Int) > IntKind.i64.max) := by rw [hmax]; omega
      simp only [Result.andThen_ok, binOp, Op.stringOp, if_neg h1]
      rfl
    · rename_i hne
      split at hk
      · rename_i c hc
        refine ⟨_, hk, fun I w u v x y hu hv => ?_⟩
        simp only [vrep] at hu hv
        subst hu; subst hv
        refine ⟨_, ?_, vrep_val⟩
        rw [Sem.run_bind, hg]
        cases op <;> simp only [strCmpR, Option.some.injEq, reduceCtorEq] at hc <;> first | (subst hc; simp [binOp, Op.stringOp]; done) | exact (hne rfl).elim
      · exact hk.elim
  · exact hk.elim

/-! ### Composite values -/
theorem vcells_setCells {I : Imm} : ∀ {ps : List PV} {us : List Value} {cs : List PV} {vs : List Value} (off : Nat), vcells I ps us → vcells I cs vs →
    vcells I (setCells cs off ps) (setCells vs off us)
  | [], [], _, _, _, _, h => h
  | [], _ :: _, _, _, _, h, _ => by simp [vcells] at h
  | _ :: _, [], _, _, _, h, _ => by simp [vcells] at h
  | _ :: _, _ :: _, _, _, off, h, k => by
    simp only [vcells] at h
    simp only [setCells]
    exact vcells_setCells (off + 1) h.2 (vcells_set h.1.1 h.1.2 off k)
theorem length_setCells {α : Type} : ∀ (ps cs : List α) (off : Nat), (setCells cs off ps).length = cs.length
  | [], _, _ => rfl
  | _ :: ps, cs, off => by simp [setCells, length_setCells ps]

theorem foldl_setCells (off : Nat) : ∀ (us : List Value) (i : Nat) (cells : Array Value),
    ((us.zipIdx i).foldl (fun cs (x : Value × Nat) => cs.setIfInBounds (off + x.2) x.1) cells).toList = setCells cells.toList (off + i) us
  | [], _, _ => rfl
  | u :: us, i, cells => by
    simp only [List.zipIdx_cons, List.foldl_cons, setCells]
    rw [foldl_setCells off us (i + 1)]
    simp [Nat.add_assoc]

inductive All2 {α β : Type} (R : α → β → Prop) : List α → List β → Prop
  | nil : All2 R [] []
  | cons {a : α} {b : β} {as : List α} {bs : List β} (h : R a b) (t : All2 R as bs) : All2 R (a :: as) (b :: bs)

/-- Where a part lies, as the model asks it. -/
theorem fill_sound {I : Imm} {place : Nat → Option (Nat × Nat)} : ∀ (parts : List (Nat × Nat × Nat × PV)) (rp : List (Nat × Value)) (zs : List PV) (vs : List Value) (cs : List PV),
    All2 (fun (q : Nat × Nat × Nat × PV) (r : Nat × Value) => r.1 = q.1 ∧ place q.1 = some (q.2.1, q.2.2.1) ∧ vrep I q.2.2.2 r.2) parts rp → vcells I zs vs →
    fillPV zs (parts.map fun q => (q.2.1, q.2.2.1, q.2.2.2)) = some cs → ∃ us : List Value, Instr.fill place vs.toArray rp = some us.toArray ∧ vcells I cs us
  | [], _, zs, vs, cs, h, hz, hf => by
    cases h
    simp only [List.map_nil, fillPV, Option.some.injEq] at hf
    subst hf
    exact ⟨vs, rfl, hz⟩
  | (i, off, k, p) :: parts, _, zs, vs, cs, h, hz, hf => by
    cases h with
    | cons h1 h2 =>
      rename_i r rp
      obtain ⟨j, v⟩ := r
      obtain ⟨hj, hpl, hv⟩ := h1
      simp only at hj hpl hv
      subst hj
      simp only [List.map_cons, fillPV] at hf
      split at hf
      · rename_i ps hps
        split at hf
        · rename_i hc
          have hcs := PV.cells_spec hv hps
          have hl := vcells_length hcs
          have hzl := vcells_length hz
          obtain ⟨us, hus, hcu⟩ := fill_sound parts rp (setCells zs off ps) (setCells vs off v.cells.toList) cs h2 (vcells_setCells off hcs hz) hf
          refine ⟨us, ?_, hcu⟩
          unfold Instr.fill
          simp only [hpl]
          have hsz : v.cells.size = k := by rw [← hc.1, hl]; simp
          have hnot : ¬ (v.cells.size ≠ k ∨ off + v.cells.size > vs.toArray.size) := by
            simp only [List.size_toArray]
            omega
          have hb : (decide (v.cells.size ≠ k) || decide (off + v.cells.size > vs.toArray.size)) = false := by
            rw [Bool.or_eq_false_iff]
            exact ⟨by simpa using hsz, by simp only [List.size_toArray]; simp; omega⟩
          rw [if_neg (by rw [hb]; simp)]
          rw [← hus]
          congr 1
          apply Array.ext'
          have := foldl_setCells off v.cells.toList 0 vs.toArray
          simp only [Nat.add_zero] at this
          rw [← Array.foldl_toList, Array.toList_zipIdx]
          exact this
        · cases hf
      · cases hf

/-- Zero cells of a type. -/
def zcells (P : Program) (T : TypeId) : Option (List PV) :=
  match P.info? T with
  | some i =>
    match i.zero with
    | some z => if z.cells.size = i.size ∧ z.cells.toList.all Value.oneCell' = true then some (z.cells.toList.map .val) else none
    | none => none
  | none => none
theorem vcells_val {I : Imm} : ∀ {vs : List Value}, vs.all Value.oneCell' = true → vcells I (vs.map .val) vs
  | [], _ => by simp [vcells]
  | v :: vs, h => by
    simp only [List.all_cons, Bool.and_eq_true] at h
    simp only [List.map_cons, vcells]
    exact ⟨⟨vrep_val, h.1⟩, vcells_val h.2⟩
theorem zcells_spec {T : TypeId} {zs : List PV} (h : zcells P T = some zs) : ∃ i z, P.info? T = some i ∧ i.zero = some z ∧ z.cells.size = i.size ∧ z.cells.toList.all Value.oneCell' = true ∧ zs = z.cells.toList.map .val ∧ ∀ I, vcells I zs z.cells.toList := by
  unfold zcells at h
  split at h
  · rename_i i hi
    split at h
    · rename_i z hz
      split at h
      · rename_i hc
        simp only [Option.some.injEq] at h
        subst h
        exact ⟨i, z, hi, hz, hc.1, hc.2, rfl, fun I => vcells_val hc.2⟩
      · cases h
    · cases h
  · cases h
theorem run_zeroValue' {T : TypeId} {i : TypeInfo} {z : Value} (hi : P.info? T = some i) (hz : i.zero = some z) (w : World) : (zeroValue T).run P w = .ok z w := by
  simp [zeroValue, run_typeInfo' hi, hz]

/-! ### Operands -/
def pvOf : Value → PV
  | .agg cs => .agg (cs.toList.map .val)
  | .func fn a b => if a.size = 0 ∧ b.size = 0 then .func fn [] [] else .val (.func fn a b)
  | .iface t v => .iface t (.val v)
  | v => .val v
def okConst : Value → Bool
  | .agg cs => cs.toList.all Value.oneCell'
  | _ => true
theorem pvOf_spec {I : Imm} {v : Value} (h : okConst v = true) : vrep I (pvOf v) v := by
  cases v with
  | agg cs =>
    simp only [okConst] at h
    simp only [pvOf, vrep]
    exact ⟨cs.toList, by simp, vcells_val h⟩
  | func fn a b =>
    simp only [pvOf]
    split
    · rename_i h2
      obtain ⟨ha, hb⟩ := h2
      obtain rfl := Array.eq_empty_of_size_eq_zero ha
      obtain rfl := Array.eq_empty_of_size_eq_zero hb
      simp only [vrep]; exact ⟨[], [], rfl, by simp [vreps], by simp [vreps]⟩
    · exact vrep_val
  | iface t v => simp only [pvOf, vrep]; exact ⟨_, rfl, by simp⟩
  | _ => exact vrep_val
def convX : Operand → Option MX
  | .tmp t => some (.tmp t)
  | .const v => if okConst v then some (.const (pvOf v)) else none
  | .global _ => none
  | .func f => some (.const (.func (.func f) [] []))

/-- The model's operand values stand for the pure ones. -/
def XRep (I : Imm) (ρ : MX → PV) (ev : Operand → Value) (xs : List Operand) : Prop := ∀ x ∈ xs, ∀ m, convX x = some m → vrep I (ρ m) (ev x)

end Go.Pv
