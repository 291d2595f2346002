/- slices.SortFunc on a row of one's own, falling: by the kit's contract. -/
import Derived.Test.YtiaebckdjklnoaaLBn
import Derived.Test.YtiaebckdjklnoaaLGl
import Derived.Shelf.SlSortCmp.Whole1
namespace Go.Pv
open Go.Shelf Go.RowKit Go.Lib Go.Sort Go.Proofs
/-- Numbers within bounds. -/
abbrev Num := { x : Int // 0 ≤ x ∧ x ≤ 1152921504606846976 }
instance : Inhabited Num := ⟨⟨0, by decide⟩⟩
def cfN (x y : Num) : Int := y.1 - x.1
theorem ltN (x y : Num) : ltOf cfN x y = decide (y.1 < x.1) := by
  unfold ltOf cfN
  exact decide_eq_decide.2 (by omega)
theorem swoN : SWO (ltOf cfN) where
  irrefl x := by rw [ltN]; simp
  trans x y z h1 h2 := by rw [ltN] at *; simp at *; omega
  ntrans x y z h1 h2 := by rw [ltN] at *; simp at *; omega
def numV (x : Num) : Value := .int .i64 x.1
def liftN (x : Int) : Num := if h : 0 ≤ x ∧ x ≤ 1152921504606846976 then ⟨x, h⟩ else default
theorem liftN_val {x : Int} (h : 0 ≤ x ∧ x ≤ 1152921504606846976) : (liftN x).1 = x := by unfold liftN; rw [dif_pos h]
def sortL (l : List Int) : List Int := (pdq (ltOf cfN) (l.map liftN).toArray 0 l.length (Lib.bitLen l.length) true true).toList.map (·.1)
/-- Within bounds. -/
def Small62 (l : List Int) : Prop := ∀ x ∈ l, 0 ≤ x ∧ x ≤ 1152921504606846976
theorem lift_map {l : List Int} (h : Small62 l) : (l.map liftN).map (·.1) = l := by
  rw [List.map_map]
  conv => rhs; rw [← List.map_id l]
  exact List.map_congr_left fun x hx => liftN_val (h x hx)
theorem sortL_facts {l : List Int} (h : Small62 l) : (sortL l).Perm l ∧ Fall (sortL l) := by
  have hs : (l.map liftN).toArray.size = l.length := by simp
  have hp := pdq_sorts (ltOf cfN) swoN (l.map liftN).toArray 0 l.length (Lib.bitLen l.length) true true (Nat.zero_le _) (by rw [hs]; exact Nat.le_refl _) (Or.inl rfl)
  obtain ⟨⟨h1, -, h2⟩, h3⟩ := hp
  generalize hd : pdq (ltOf cfN) (l.map liftN).toArray 0 l.length (Lib.bitLen l.length) true true = d at *
  have e0 : sortL l = d.toList.map (·.1) := by unfold sortL; rw [hd]
  rw [e0]
  rw [hs] at h1
  constructor
  · have e1 : (d.extract 0 l.length).toList = d.toList := by rw [← h1]; simp
    have e2 : ((l.map liftN).toArray.extract 0 l.length).toList = l.map liftN := by simp [List.take_of_length_le]
    rw [e1, e2] at h2
    have := h2.map (·.1)
    rwa [lift_map h] at this
  · unfold Fall
    rw [List.pairwise_iff_getElem]
    intro i j hi hj hij
    simp only [List.length_map, Array.length_toList] at hi hj
    have := h3 i j (Nat.zero_le _) hij (by omega)
    rw [ltN, decide_eq_false_iff_not] at this
    simp only [List.getElem_map, Array.getElem_toList]
    rw [getElem!_pos d i hi, getElem!_pos d j hj] at this
    omega
theorem sortL_len {l : List Int} (h : Small62 l) : (sortL l).length = l.length := (sortL_facts h).1.length_eq
theorem vcells_split {I : Imm} : ∀ {ps qs : List PV} {vs : List Value}, vcells I (ps ++ qs) vs → ∃ a c, vs = a ++ c ∧ vcells I ps a ∧ vcells I qs c
  | [], _, vs, h => ⟨[], vs, rfl, by simp [vcells], h⟩
  | p :: ps, qs, [], h => by simp [vcells] at h
  | p :: ps, qs, v :: vs, h => by
    simp only [List.cons_append, vcells] at h
    obtain ⟨a, c, rfl, h1, h2⟩ := vcells_split h.2
    exact ⟨v :: a, c, rfl, ⟨h.1, h1⟩, h2⟩
theorem putCells_list {l l' : List Int} {us : List Value} {C : List Value} (hl : l'.length = l.length) (hu : us = l.map (Value.int .i64) ++ C) {d : Array Num} (hd : d.toList.map (·.1) = l') :
    (putCells numV 0 d us.toArray).toList = l'.map (Value.int .i64) ++ C := by
  have hs : d.size = l'.length := by have := congrArg List.length hd; simpa using this
  refine List.ext_getElem (by simp [putCells, hu, hl]) fun i h1 h2 => ?_
  simp only [putCells, Array.getElem_toList, Array.getElem_mapIdx, Nat.zero_le, true_and, Nat.zero_add, Nat.sub_zero]
  subst hd
  by_cases hi : i < d.size
  · rw [if_pos hi, getElem!_pos d i hi, List.getElem_append_left (by simpa using hi)]
    simp [numV]
  · rw [if_neg hi, List.getElem_append_right (by simpa using hi)]
    subst hu
    simp only [List.getElem_toArray]
    rw [List.getElem_append_right (by simp at hs hl ⊢; omega)]
    simp only [List.length_map] at hl ⊢
    congr 1
    simp at hl ⊢
    omega
theorem SRep.sorted {I : Imm} {st : Store} {w : World} {b : Nat} {T : TypeId} {l l' : List Int} {C : List PV} (h : SRep I ((b, .arr T (intRow l ++ C)) :: st) w) (_hn : snew st b) (hl : l'.length = l.length) {d : Array Num} (hd : d.toList.map (·.1) = l') (n : Nat) (os : Array Obj) :
    SRep I ((b, .arr T (intRow l' ++ C)) :: st) (sortWorld numV w b 0 n d os) ∧ Calm w (sortWorld numV w b 0 n d os) := by
  obtain ⟨hI, r, hr, us, rfl, hu⟩ := h.objs b (.arr T (intRow l ++ C)) (by simp [sget])
  have hbs := (Array.getElem?_eq_some_iff.1 hr).1
  have hh : ∀ k, (sortWorld numV w b 0 n d os).heap[k]? = if k < w.heap.size then (if b = k then some (.cells (putCells numV 0 d us.toArray) T (0, 0)) else w.heap[k]?) else os[k - w.heap.size]? := fun k => by
    have hsz : (w.heap.modify b (onCells (putCells numV 0 d))).size = w.heap.size := by simp
    show ((w.heap.modify b (onCells (putCells numV 0 d))) ++ os)[k]? = _
    rw [Array.getElem?_append, hsz]
    split
    · rw [Array.getElem?_modify]
      split
      · rename_i e
        subst e
        rw [hr]
        rfl
      · rfl
    · rfl
  have hsize : w.heap.size ≤ (sortWorld numV w b 0 n d os).heap.size := by
    show w.heap.size ≤ ((w.heap.modify b (onCells (putCells numV 0 d))) ++ os).size
    simp
  obtain ⟨vs1, vs2, rfl, h1, h2⟩ : ∃ vs1 vs2, us = vs1 ++ vs2 ∧ vcells I (intRow l) vs1 ∧ vcells I C vs2 := vcells_split hu
  have e1 : vs1 = l.map (Value.int .i64) := by
    have e : intRow l = (l.map (Value.int .i64)).map PV.val := by simp [intRow]
    rw [e] at h1
    exact vals_of_vcells h1
  refine ⟨⟨fun k o hk => ?_, fun k o hk => ?_, ?_⟩, ⟨rfl, rfl, rfl, hsize⟩⟩
  · rw [hh, if_pos (h.imm_lt hk), if_neg (fun e => by subst e; rw [hI] at hk; cases hk)]
    exact h.imm k o hk
  · by_cases e : b = k
    · subst e
      simp only [sget, if_true, Option.some.injEq] at hk
      subst hk
      refine ⟨hI, _, by rw [hh, if_pos hbs, if_pos rfl], (putCells numV 0 d (vs1 ++ vs2).toArray).toList, by simp, ?_⟩
      rw [putCells_list hl (by rw [e1]) hd]
      have e : intRow l' = (l'.map (Value.int .i64)).map PV.val := by simp [intRow]
      rw [e]
      exact vcells_append (vcells_vals I _ (fun v hv => by obtain ⟨x, -, rfl⟩ := List.mem_map.1 hv; rfl)) h2
    · have hk' : sget ((b, .arr T (intRow l ++ C)) :: st) k = some o := by simpa [sget, e] using hk
      obtain ⟨a1, r', a2, a3⟩ := h.objs k o hk'
      exact ⟨a1, r', by rw [hh, if_pos (h.obj_lt hk'), if_neg e]; exact a2, a3⟩
  · have := h.keys
    simp only [sfresh] at this ⊢
    exact ⟨by omega, sfresh_mono this.2 hsize⟩
theorem sortF {P : Program} {ρ : Ren} (L6 : SlLaysF.n6 P ρ) {f g : FuncId} (hf : ρ.f 6 = f) (ef : Enters P f) (eg : ∀ args w, (callFunc g args).run P w = .ok (.enter g args) w)
    (hc : ∀ (x y : Num) (w : World), Calls P g #[numV x, numV y] w fun e w' => e = .returned (.int .i64 (cfN x y)) ∧ w' = w)
    {T : TypeId} {l : List Int} (hl : Small62 l) {b cap : Nat} {C : List PV} {st : Store} (hn : snew st b) (hs : l.length < 4611686018427387904) :
    Does P f [.own b 0 l.length cap, .func (.func g) [] []] ((b, .arr T (intRow l ++ C)) :: st) (.tuple []) ((b, .arr T (intRow (sortL l) ++ C)) :: st) := by
  subst hf
  refine .inl ⟨ef, fun I w vs hS hv => ?_⟩
  obtain ⟨v1, v2, rfl, e1, e2⟩ : ∃ v1 v2, vs = [v1, v2] ∧ vrep I (.own b 0 l.length cap) v1 ∧ vrep I (.func (.func g) [] []) v2 := by
    match vs, hv with
    | [v1, v2], hv => simp only [vreps] at hv; exact ⟨v1, v2, rfl, hv.1, hv.2.1⟩
  simp only [vrep] at e1 e2
  obtain ⟨us, vs, rfl, h3, h4⟩ := e2
  subst e1
  obtain rfl : us = [] := by cases us <;> simp [vreps] at h3 ⊢
  obtain rfl : vs = [] := by cases vs <;> simp [vreps] at h4 ⊢
  have hsz : (l.map liftN).toArray.size = l.length := by simp
  obtain ⟨hI, r, hr, us, rfl, hu⟩ := hS.objs b (.arr T (intRow l ++ C)) (by simp [sget])
  obtain ⟨vs1, vs2, rfl, h1, h2⟩ : ∃ vs1 vs2, us = vs1 ++ vs2 ∧ vcells I (intRow l) vs1 ∧ vcells I C vs2 := vcells_split hu
  have e1 : vs1 = l.map (Value.int .i64) := by
    have e : intRow l = (l.map (Value.int .i64)).map PV.val := by simp [intRow]
    rw [e] at h1
    exact vals_of_vcells h1
  have hH : Holds numV w b 0 (l.map liftN).toArray := fun j hj => by
    rw [hsz] at hj
    rw [Nat.zero_add]
    have hv : (l.map liftN).toArray[j]! = liftN l[j] := by
      rw [getElem!_pos _ j (by simpa using hj)]
      simp
    rw [hv]
    refine ⟨?_, by simp [World.frozen?, hr]⟩
    have hx := liftN_val (hl _ (List.getElem_mem hj))
    simp only [World.cell?, hr]
    subst e1
    simp only [numV, hx]
    rw [List.getElem?_toArray, List.getElem?_append_left (by simpa using hj)]
    simp [hj]
  have hcall := Any.slices_SortFunc_eq L6 numV (fun _ => rfl) cfN swoN g #[] b 0 cap (l.map liftN).toArray w eg (fun m os dk _ x y => (hc x y _).mono fun e w' ⟨a, c⟩ => ⟨a, 0, #[], by rw [c, grow_empty]; rfl⟩) hH (Array.getElem?_eq_some_iff.1 hr).1 (by rw [hsz]; exact hs)
  rw [hsz] at hcall
  refine hcall.mono fun e w' ⟨he, n, os, hw⟩ => ?_
  subst hw
  obtain ⟨k1, k2⟩ := SRep.sorted hS hn (sortL_len hl) (d := pdq (ltOf cfN) (l.map liftN).toArray 0 l.length (Lib.bitLen l.length) true true) rfl n os
  exact ⟨I, _, I.le_refl, k2, k1, .ret (.tuple []), ⟨_, he, by simp [vrep, vreps]⟩, rfl, rfl⟩
/-- math/bits.Len, by the kit's contract. -/
theorem bitsLen0 {P : Program} {ρ : Ren} (L6 : SlLaysF.n6 P ρ) {f : FuncId} (hf : ρ.f 15 = f) (ef : Enters P f) (st : Store) : Rets P f [.val (.int .u64 0)] st (.int 0) := by
  subst hf
  refine .inl ⟨ef, fun I w vs hS hv => ?_⟩
  obtain ⟨v1, rfl, e1⟩ : ∃ v1, vs = [v1] ∧ vrep I (.val (.int .u64 0)) v1 := by
    match vs, hv with
    | [v1], hv => simp only [vreps] at hv; exact ⟨v1, rfl, hv.1⟩
  simp only [vrep] at e1
  subst e1
  have h := Any.bits_Len (SlLaysF0.n15.bits (P := P) (ρ := ρ) { L6 with }) 0 w (by omega) (by omega)
  refine h.mono fun e w' ⟨he, hw⟩ => ?_
  subst hw
  exact ⟨I, st, I.le_refl, Calm.refl _, hS, .ret (.int 0), ⟨_, he, by simp [vrep]; rfl⟩, rfl, rfl⟩
end Go.Pv
