/- From what the arguments read as, to pure values; from a pure answer to the call's own. -/
import Derived.ProofKit
import Derived.OpenShut
import Derived.ChangeOld
import Derived.Deep.Slices
import Derived.Test.YtliglilanpfjhaaLLo
namespace Go.Pv
open Go.ChangeShapes Go.WideShapes Go.Deep Go.RowKit

/-- A whole heap, never written. -/
def immOf (w : World) : Imm := fun b => w.heap[b]?
theorem srep_imm (w : World) : SRep (immOf w) [] w := ⟨fun _ _ h => h, fun b o h => by simp [sget] at h, trivial⟩
theorem below_of {w w' : World} {I : Imm} {st : Store} (h1 : (immOf w).le I) (h2 : Calm w w') (h3 : SRep I st w') : Below w.heap.size w w' :=
  ⟨h2.os, h2.tape, h2.output, h2.size, fun k hk => by
    have h : w.heap[k]? = some w.heap[k] := Array.getElem?_eq_getElem hk
    rw [h, h3.imm k _ (h1 k _ h)]⟩
theorem Has.bridge {P : Program} {g : FuncId} {m : MFunc} (hg : Has P g m) {ps : List PV} (h : Rets P g ps [] (.bool true)) {w : World} {vs : List Value} (hv : vreps (immOf w) ps vs) :
    Calls P g vs.toArray w fun e w' => e = .returned (.bool true) ∧ Below w.heap.size w w' := by
  have hp : PEnter P g ps [] fun e s => e = .ret (.bool true) ∧ s = [] := by
    rcases h with h | h
    · exact h
    · obtain ⟨v, w', h3, -⟩ := h.out _ w vs (srep_imm w) hv
      rw [callFunc_run hg.enters] at h3
      cases h3
  refine (hp.out _ w vs (srep_imm w) hv).mono fun e w' hh => ?_
  obtain ⟨I', st', a, b, c, pe, d, rfl, rfl⟩ := hh
  obtain ⟨v, rfl, hv⟩ := d
  simp only [vrep] at hv
  subst hv
  exact ⟨rfl, below_of a b c⟩

section
variable {H : Type} {enc : TypeId × Value → H} {P : Program} {w : World} {base : Nat} {spare : Nat → Bool} {held : Bool}
/-- A record of n whole numbers, some perhaps in records inside. -/
def intRecD (P : Program) : Nat → TypeId → Nat → Bool
  | 0, t, n => match P.underlying t with
    | some (.int .i64) => n == 1 && P.cellsOf t == 1
    | _ => false
  | d + 1, t, n => match P.underlying t with
    | some (.struct fs) => P.cellsOf t == n && (List.range n).all fun i => (List.range fs.size).any fun j => match fs[j]? with
      | some f => decide (f.offset ≤ i) && decide (i < f.offset + P.cellsOf f.type) && intRecD P d f.type (P.cellsOf f.type)
      | none => false
    | some (.int .i64) => n == 1 && P.cellsOf t == 1
    | _ => false
def intRec (P : Program) (t : TypeId) (n : Nat) : Bool := intRecD P 2 t n
/-- An int's range. -/
def I64 (n : Int) : Prop := -9223372036854775808 ≤ n ∧ n ≤ 9223372036854775807
theorem I64.of_wf {n : Int} (h : (Lit.int .i64 n).wf = true) : I64 n := by
  simp [Lit.wf, IntKind.min, IntKind.max, IntKind.bits, IntKind.signed] at h
  unfold I64
  omega
theorem all_ints : ∀ cs : List Value, (∀ i, i < cs.length → ∃ n, cs[i]? = some (.int .i64 n) ∧ I64 n) → ∃ ns : List Int, cs = ns.map (Value.int .i64) ∧ ∀ n ∈ ns, I64 n
  | [], _ => ⟨[], rfl, by simp⟩
  | c :: cs, h => by
    obtain ⟨n, hn, hr⟩ := h 0 (by simp)
    obtain ⟨ns, hns, hrs⟩ := all_ints cs fun i hi => by
      have := h (i + 1) (by simp; omega)
      simpa using this
    simp at hn
    exact ⟨n :: ns, by rw [hns, hn]; rfl, fun m hm => by
      rcases List.mem_cons.1 hm with rfl | hm
      · exact hr
      · exact hrs m hm⟩
theorem intRecD_open : ∀ {d : Nat} {t : TypeId} {n fuel : Nat} {cs : List Value} {x : DataW H × List MemPlace}, intRecD P d t n = true → DataW.trod enc P w base spare held fuel t cs = some x →
    P.cellsOf t = n ∧ ∃ ns : List Int, ns.length = n ∧ cs = ns.map (Value.int .i64) ∧ ∀ n ∈ ns, I64 n
  | 0, t, n, fuel, cs, x, hr, h => by
    unfold intRecD at hr
    split at hr
    · rename_i hs
      simp only [Bool.and_eq_true, beq_iff_eq] at hr
      obtain ⟨k, hk, -, hwf⟩ := DataW.trod_int hs h
      refine ⟨by omega, [k], by simp [hr.1], hk, ?_⟩
      intro n hn
      simp at hn
      subst hn
      exact .of_wf hwf
    · cases hr
  | d + 1, t, n, fuel, cs, x, hr, h => by
    unfold intRecD at hr
    split at hr
    · rename_i fs hs
      simp only [Bool.and_eq_true, beq_iff_eq, List.all_eq_true, List.mem_range] at hr
      obtain ⟨h2, h3⟩ := hr
      obtain ⟨xs, m, _, _, h4, h5, h6⟩ := DataW.trod_struct hs h
      have hlen : cs.length = n := by omega
      obtain ⟨ns, hns, hrs⟩ := all_ints cs fun i hi => by
        have h7 := h3 i (by omega)
        rw [List.any_eq_true] at h7
        obtain ⟨j, -, h7⟩ := h7
        split at h7
        · rename_i f hf
          simp only [Bool.and_eq_true, decide_eq_true_eq] at h7
          obtain ⟨⟨h8, h9⟩, h10⟩ := h7
          have h11 := h6 j f hf
          have hjs : j < fs.size := (Array.getElem?_eq_some_iff.1 hf).1
          rw [List.getElem?_eq_getElem (by omega)] at h11
          have hy := h11
          obtain ⟨-, ns', l1, l2, l3⟩ := intRecD_open h10 hy
          have h12 := congrArg (·[i - f.offset]?) l2
          simp only [List.getElem?_take, List.getElem?_drop] at h12
          rw [if_pos (by omega), show f.offset + (i - f.offset) = i by omega, List.getElem?_map, List.getElem?_eq_getElem (by omega : i - f.offset < ns'.length)] at h12
          exact ⟨_, h12, l3 _ (List.getElem_mem _)⟩
        · cases h7
      refine ⟨h2, ns, ?_, hns, hrs⟩
      rw [hns] at hlen
      simpa using hlen
    · rename_i hs
      simp only [Bool.and_eq_true, beq_iff_eq] at hr
      obtain ⟨k, hk, -, hwf⟩ := DataW.trod_int hs h
      refine ⟨by omega, [k], by simp [hr.1], hk, ?_⟩
      intro n hn
      simp at hn
      subst hn
      exact .of_wf hwf
    · cases hr
theorem intRec_open {t : TypeId} {n fuel : Nat} {cs : List Value} {x : DataW H × List MemPlace} (hr : intRec P t n = true) (h : DataW.trod enc P w base spare held fuel t cs = some x) :
    P.cellsOf t = n ∧ ∃ ns : List Int, ns.length = n ∧ cs = ns.map (Value.int .i64) ∧ ∀ n ∈ ns, I64 n := intRecD_open hr h
theorem vcells_ints (I : Imm) : ∀ ns : List Int, vcells I (ns.map PV.int) (ns.map (Value.int .i64))
  | [] => trivial
  | _n :: ns => ⟨⟨rfl, rfl⟩, vcells_ints I ns⟩
theorem row_of_cell {w : World} {b off : Nat} {v : Value} (h : w.cell? ⟨b, off, none⟩ = some v) : ∃ arr T fz, w.heap[b]? = some (.cells arr T fz) ∧ arr[off]? = some v := by
  unfold World.cell? at h
  split at h
  · exact ⟨_, _, _, ‹_›, by simpa using h⟩
  · cases h
/-- How a record type's values are told: cells and values. -/
structure RecOf (α : Type) (k : Nat) where
  enc : α → List PV
  of : List Int → α
  ok : ∀ ns : List Int, ns.length = k → enc (of ns) = ns.map PV.int
theorem open_recR {α : Type} [Inhabited α] {k : Nat} (R : RecOf α k) {r : Reach} {b0 : Nat} {t : TypeId} {v : Value} {d : DataW H} {p : List MemPlace} {fs : Array Field} (hs : P.underlying t = some (.struct fs)) (hr : intRec P t k = true)
    (hv : Value.okWide P w r b0 t v) (h : DataW.Trod enc P w base spare held t v d p) : ∃ x : α, (∃ ns : List Int, ns.length = k ∧ x = R.of ns ∧ ∀ n ∈ ns, I64 n) ∧ ∀ I, vrep I (.agg (R.enc x)) v := by
  obtain ⟨cs, rfl, -⟩ := okWide_struct hs hv
  obtain ⟨fuel, hf⟩ := h
  obtain ⟨-, ns, h1, h2, h4⟩ := intRec_open hr hf
  refine ⟨R.of ns, ⟨ns, h1, rfl, h4⟩, fun I => ?_⟩
  rw [R.ok ns h1]
  simp only [vrep]
  have h3 : cs.toList = ns.map (Value.int .i64) := h2
  exact ⟨ns.map (Value.int .i64), by rw [← h3], vcells_ints I ns⟩
theorem open_rec {α : Type} [Inhabited α] {k : Nat} (R : RecOf α k) {r : Reach} {b0 : Nat} {t : TypeId} {v : Value} {d : DataW H} {p : List MemPlace} {fs : Array Field} (hs : P.underlying t = some (.struct fs)) (hr : intRec P t k = true)
    (hv : Value.okWide P w r b0 t v) (h : DataW.Trod enc P w base spare held t v d p) : ∃ x : α, ∀ I, vrep I (.agg (R.enc x)) v :=
  let ⟨x, _, h⟩ := open_recR R hs hr hv h
  ⟨x, h⟩
theorem flat_cells {I : Imm} : ∀ {ls : List (List Int)}, vcells I (ls.flatMap fun ns => ns.map PV.int) (ls.flatMap fun ns => ns.map (Value.int .i64))
  | [] => trivial
  | ns :: ls => by
    simp only [List.flatMap_cons]
    exact vcells_append (vcells_ints I ns) flat_cells
theorem flat_at {α β : Type} (g : α → List β) (k : Nat) : ∀ (l : List α) (i j : Nat), (∀ x ∈ l, (g x).length = k) → j < k → ∀ h : i < l.length, (l.flatMap g)[i * k + j]? = (g l[i])[j]?
  | x :: l, 0, j, hm, hj, _ => by
    have := hm x (by simp)
    simp only [List.flatMap_cons, Nat.zero_mul, Nat.zero_add, List.getElem_cons_zero]
    rw [List.getElem?_append_left (by omega)]
  | x :: l, i + 1, j, hm, hj, h => by
    have h1 := hm x (by simp)
    simp only [List.flatMap_cons, List.getElem_cons_succ]
    rw [List.getElem?_append_right (by rw [h1, Nat.succ_mul]; omega), h1, ← flat_at g k l i j (fun y hy => hm y (by simp [hy])) hj (by simpa using h)]
    congr 1
    rw [Nat.succ_mul]; omega
theorem flat_len {α β : Type} (g : α → List β) (k : Nat) : ∀ (l : List α), (∀ x ∈ l, (g x).length = k) → (l.flatMap g).length = l.length * k
  | [], _ => by simp
  | x :: l, hm => by
    simp only [List.flatMap_cons, List.length_append, List.length_cons]
    rw [hm x (by simp), flat_len g k l (fun y hy => hm y (by simp [hy])), Nat.succ_mul]; omega
theorem open_recsR {α : Type} [Inhabited α] {k : Nat} (hk : 0 < k) (R : RecOf α k) {r : Reach} {b0 : Nat} {t e : TypeId} {v : Value} {d : DataW H} {p : List MemPlace} (hs : P.underlying t = some (.slice e)) (hr : intRec P e k = true)
    (hv : Value.okWide P w r b0 t v) (h : DataW.Trod enc P w base spare held t v d p) : ∃ l : List α, (∀ x ∈ l, ∃ ns : List Int, ns.length = k ∧ x = R.of ns ∧ ∀ n ∈ ns, I64 n) ∧ vrep (immOf w) (.list false (l.flatMap R.enc) l.length) v := by
  obtain ⟨a, len, cap, rfl⟩ := okWide_slice hs hv
  obtain ⟨fuel, hf⟩ := h
  rcases open_slice hs hf with ⟨h1, -⟩ | ⟨a', len', cap', m, n, D, Pl, h1, -, hl, hm, hmm, -, hx⟩
  · simp [Value.cells] at h1
    obtain ⟨rfl, rfl, rfl⟩ := h1
    exact ⟨[], by simp, (PLe.trans .nil .loose : PLe .nil (.list false [] 0)) _ _ (by simp only [vrep])⟩
  · simp [Value.cells] at h1
    obtain ⟨rfl, rfl, rfl⟩ := h1
    have hlm : len ≤ m := by rw [hmm]; split <;> omega
    obtain ⟨f, hf⟩ := choose_lt (α := List Int) (p := fun i ns => (ns.length = k ∧ ∀ n ∈ ns, I64 n) ∧ ∀ j, j < k → w.cell? (a'.add (i * k + j)) = (ns.map (Value.int .i64))[j]?) (n := m) fun i hi => by
      obtain ⟨cs', g1, g2⟩ := hx i hi
      obtain ⟨g3, ns, g4, g5, g8⟩ := intRec_open hr g2
      obtain ⟨-, g6, g7⟩ := World.cells?_some g1
      rw [g3] at g7
      refine ⟨ns, ⟨g4, g8⟩, fun j hj => ?_⟩
      have := g7 j hj
      rw [add_add] at this
      rw [this, g5]
    refine ⟨(List.range len).map fun i => R.of (f i), fun x hx => ?_, ?_⟩
    · simp only [List.mem_map, List.mem_range] at hx
      obtain ⟨i, hi, rfl⟩ := hx
      exact ⟨f i, (hf i (by omega)).1.1, rfl, (hf i (by omega)).1.2⟩
    have hF : ∀ x ∈ (List.range len).map f, (x.map (Value.int .i64)).length = k := by
      intro x hx'
      simp only [List.mem_map, List.mem_range] at hx'
      obtain ⟨i, hi, rfl⟩ := hx'
      simpa using (hf i (by omega)).1.1
    have hrow : ((List.range len).map fun i => R.of (f i)).flatMap R.enc = ((List.range len).map f).flatMap fun ns => ns.map PV.int := by
      simp only [List.flatMap_map]
      rw [List.flatMap_def, List.flatMap_def]
      congr 1
      exact List.map_congr_left fun i hi => R.ok _ (hf i (by have := List.mem_range.1 hi; omega)).1.1
    rw [hrow]
    simp only [vrep]
    refine ⟨some a', cap, _, by simp, by simpa using hl, hm, by simp, flat_cells, ?_⟩
    by_cases h0 : len = 0
    · left; subst h0; rfl
    · right
      have hsp : a'.spot = none := by
        have := (hf 0 (by omega)).2 0 hk
        rw [List.getElem?_eq_getElem (by simpa [(hf 0 (by omega)).1.1] using hk)] at this
        have := World.cell?_spot this
        obtain ⟨x, y, z⟩ := a'
        simpa [Addr.add] using this
      obtain ⟨b, off, spot⟩ := a'
      subst hsp
      refine ⟨b, off, rfl, ?_⟩
      have hadd : ∀ q, (⟨b, off, none⟩ : Addr).add q = ⟨b, off + q, none⟩ := fun q => by
        unfold Addr.add
        by_cases hq : q = 0 <;> simp [hq]
      have hcell : ∀ j v, (((List.range len).map f).flatMap fun ns => ns.map (Value.int .i64))[j]? = some v → w.cell? ⟨b, off + j, none⟩ = some v := by
        intro j v hj
        have hjl := (List.getElem?_eq_some_iff.1 hj).1
        have hF' : ∀ x ∈ (List.range len).map f, ((fun ns : List Int => ns.map (Value.int .i64)) x).length = k := hF
        rw [flat_len _ k _ hF'] at hjl
        simp only [List.length_map, List.length_range] at hjl
        have hq : j / k < len := (Nat.div_lt_iff_lt_mul hk).2 hjl
        have hr : j % k < k := Nat.mod_lt _ hk
        have he : j / k * k + j % k = j := by rw [Nat.mul_comm]; exact Nat.div_add_mod j k
        have h1 := flat_at (fun ns : List Int => ns.map (Value.int .i64)) k _ (j / k) (j % k) hF' hr (by simpa using hq)
        rw [he, hj] at h1
        have h2 := (hf (j / k) (Nat.lt_of_lt_of_le hq hlm)).2 (j % k) hr
        rw [hadd, he] at h2
        rw [h2, h1]
        simp
      cases hv : ((List.range len).map f).flatMap fun ns => ns.map (Value.int .i64) with
      | nil =>
        have := flat_len (fun ns : List Int => ns.map (Value.int .i64)) k _ hF
        rw [hv] at this
        simp only [List.length_nil, List.length_map, List.length_range] at this
        have := Nat.mul_pos (Nat.pos_of_ne_zero h0) hk
        omega
      | cons v0 vs0 =>
        obtain ⟨arr, T, fz, g1, -⟩ := row_of_cell (hcell 0 v0 (by rw [hv]; rfl))
        refine ⟨arr, T, fz, g1, fun j v hj => ?_⟩
        rw [← hv] at hj
        obtain ⟨arr', T', fz', g2, g3⟩ := row_of_cell (hcell j v hj)
        have g1' : w.heap[b]? = some (.cells arr T fz) := g1
        have g2' : w.heap[b]? = some (.cells arr' T' fz') := g2
        rw [g1'] at g2'
        cases g2'
        exact g3
theorem open_recs {α : Type} [Inhabited α] {k : Nat} (hk : 0 < k) (R : RecOf α k) {r : Reach} {b0 : Nat} {t e : TypeId} {v : Value} {d : DataW H} {p : List MemPlace} (hs : P.underlying t = some (.slice e)) (hr : intRec P e k = true)
    (hv : Value.okWide P w r b0 t v) (h : DataW.Trod enc P w base spare held t v d p) : ∃ l : List α, vrep (immOf w) (.list false (l.flatMap R.enc) l.length) v :=
  let ⟨l, _, h⟩ := open_recsR hk R hs hr hv h
  ⟨l, h⟩
end
end Go.Pv
