/- The compact code is met by the model's own: what operations come to, calls, stores. -/
import Derived.Test.YtliglilanpfjhaaLSn3
import Derived.Laws.MakeOwn
import Derived.IntWalk
namespace Go.Pv
variable {P : Program}

/-- What an operation has come to. -/
def UponR (P : Program) (I : Imm) (w : World) (K QP : PV → Store → Prop) : Result Next → Prop
  | .ok (.value v) w' => Held I w (fun I' st' => ∃ p, vrep I' p v ∧ K p st') w'
  | .ok .skip w' => Held I w (fun _ st' => K .any st') w'
  | .ok (.enter g args) w' => ∃ ps st1 I1, I.le I1 ∧ Calm w w' ∧ SRep I1 st1 w' ∧ ∃ vs : List Value, args = vs.toArray ∧ vreps I1 ps vs ∧ PEnter P g ps st1 (endPost K QP)
  | .ok (.round l f tmps assign body) w' => RoundIn Fence.wide 0 P l f tmps assign body w' fun e w2 => Held I w (fun I' st' => ∃ pe, erep I' pe e ∧ endPost K QP pe st') w2
  | .halt (.panic v) w' => Held I w (fun I' st' => ∃ p, vrep I' p v ∧ QP p st') w'
  | _ => False

theorem callFunc_run {g : FuncId} (h : Enters P g) (args : Array Value) (w : World) : (callFunc g args).run P w = .ok (.enter g args) w := by
  obtain ⟨fn, h1, h2, h3⟩ := h
  simp only [callFunc, Sem.run_bind, run_program, Result.andThen_ok, h1, h2, h3, Bool.false_eq_true, if_false, Sem.run_pure]

theorem callV_sound {f : PV} {args : List PV} {st : Store} {K QP : PV → Store → Prop} (hk : PCallV P f args st (endPost K QP)) {I : Imm} {w : World} (hs : SRep I st w) {fv : Value} {vs : List Value}
    (hf : vrep I f fv) (ha : vreps I args vs) : UponR P I w K QP ((do let d ← Deferred.ofValue fv vs.toArray; invoke d.target d.args : Sem Next).run P w) := by
  unfold PCallV at hk
  split at hk
  · rename_i g fs cs
    simp only [vrep] at hf
    obtain ⟨us, ws, rfl, h1, h2⟩ := hf
    have hvs : vreps I (fs ++ args ++ cs) (us ++ vs ++ ws) := vreps_append (vreps_append h1 ha) h2
    rcases hk with hk | hk
    · simp only [Deferred.ofValue, Sem.run_bind, Sem.run_pure, Result.andThen_ok, invoke, callFunc_run hk.enters, UponR]
      exact ⟨_, st, I, I.le_refl, Calm.refl w, hs, us ++ vs ++ ws, by simp, hvs, hk⟩
    · obtain ⟨v, w', h3, I', st', h4, h5, h6, p, h7, h8⟩ := hk.out I w _ hs hvs
      have e : (us.toArray ++ vs.toArray ++ ws.toArray) = (us ++ vs ++ ws).toArray := by simp
      simp only [Deferred.ofValue, Sem.run_bind, Sem.run_pure, Result.andThen_ok, invoke, e, h3, UponR]
      exact ⟨I', st', h4, h5, h6, p, h7, h8⟩
  · rename_i l
    simp only [vrep] at hf
    obtain ⟨us, ws, rfl, h1, h2⟩ := hf
    have e1 : us = [] := by cases us with | nil => rfl | cons => simp [vreps] at h1
    have e2 : ws = [] := by cases ws with | nil => rfl | cons => simp [vreps] at h2
    subst e1; subst e2
    obtain ⟨r, h3, h4, h5⟩ := hk.out I w vs hs ha
    have hg : (Instr.getLoop l).run P w = .ok r w := by
      have hgo : (getObj l).run P w = .ok (.loop r) w := by simp [getObj, Sem.run, h3]
      simp only [Instr.getLoop, Sem.run_bind, hgo, Result.andThen_ok, Sem.run_pure]
    have hsz : ¬ (vs.toArray.size ≠ r.params.size) := by simp [h4]
    simp only [Deferred.ofValue, Sem.run_bind, Sem.run_pure, Result.andThen_ok, invoke, Instr.yield, hg, UponR]
    simp only [Array.empty_append]
    rw [if_neg (by simpa using h4.symm)]
    exact h5
  · exact hk.elim

theorem length_vcells {I : Imm} {ps : List PV} {v : Value} (h : vcells I ps v.cells.toList) : v.cells.size = ps.length := by
  rw [vcells_length h]; simp

theorem map_setCells {α β : Type} (f : α → β) : ∀ (ps cs : List α) (off : Nat), (setCells cs off ps).map f = setCells (cs.map f) off (ps.map f)
  | [], _, _ => rfl
  | p :: ps, cs, off => by simp [setCells, map_setCells f ps, List.map_set]

/-- Storing a run of cells into an object of the store. -/
theorem storeCells_run {b : Nat} {T : TypeId} : ∀ (us : List Value) (i off : Nat) (vs : List Value) (w : World), w.heap[b]? = some (.cells vs.toArray T (0, 0)) → off + i + us.length ≤ vs.length →
    (∀ u ∈ us, u.oneCell' = true) →
    ∃ w', (storeCells ⟨b, off, none⟩ us i).run P w = .ok () w' ∧ Calm w w' ∧ w'.heap.size = w.heap.size ∧
      w'.heap[b]? = some (.cells (setCells vs (off + i) us).toArray T (0, 0)) ∧ ∀ c, c ≠ b → w'.heap[c]? = w.heap[c]?
  | [], i, off, vs, w, hw, _, _ => ⟨w, rfl, Calm.refl w, rfl, hw, fun _ _ => rfl⟩
  | u :: us, i, off, vs, w, hw, hl, h1 => by
    have hlen : off + i < vs.length := by simp at hl; omega
    have hcell : w.cell? ⟨b, off + i, none⟩ = some vs[off + i] := by
      rw [cell_row hw]; simp [hlen]
    have hfz : w.frozen? ⟨b, off + i, none⟩ = false := by simp [World.frozen?, hw]
    have hst : (store ((⟨b, off, none⟩ : Addr).add i) u).run P w = .ok () (w.setCell ⟨b, off + i, none⟩ u) := by
      rw [addr_add, run_store P w _ u .plain (h1 u (by simp)), hcell]
      simp [hfz]
    have hw' : (w.setCell ⟨b, off + i, none⟩ u).heap[b]? = some (.cells (vs.set (off + i) u).toArray T (0, 0)) := by
      simp [World.setCell, Array.getElem?_modify, hw]
    obtain ⟨w'', h2, h3, h4, h5, h6⟩ := storeCells_run us (i + 1) off (vs.set (off + i) u) _ hw' (by simp at hl ⊢; omega) (fun x hx => h1 x (by simp [hx]))
    refine ⟨w'', ?_, ?_, ?_, ?_, ?_⟩
    · simp only [storeCells, Sem.run_bind, hst, Result.andThen_ok]
      exact h2
    · have hc : Calm w (w.setCell ⟨b, off + i, none⟩ u) := ⟨rfl, rfl, rfl, by rw [World.size_setCell]; exact Nat.le_refl _⟩
      exact hc.trans h3
    · rw [h4, World.size_setCell]
    · rw [h5]; rfl
    · intro c hc
      rw [h6 c hc]
      simp only [World.setCell, Array.getElem?_modify]
      rw [if_neg (fun e => hc e.symm)]

end Go.Pv
/- The compact code is met by the model's own: append, copy, make. -/
namespace Go.Pv
variable {P : Program}

theorem vcells_append' {I : Imm} : ∀ {ps qs : List PV} {us vs : List Value}, vcells I ps us → vcells I qs vs → vcells I (ps ++ qs) (us ++ vs)
  | [], _, [], _, _, h => h
  | [], _, _ :: _, _, h, _ => by simp [vcells] at h
  | _ :: _, _, [], _, h, _ => by simp [vcells] at h
  | p :: ps, qs, u :: us, vs, h, k => by
    simp only [vcells] at h
    simp only [List.cons_append, vcells]
    exact ⟨h.1, vcells_append' h.2 k⟩
theorem vcells_any {I : Imm} : ∀ {vs : List Value}, (∀ v ∈ vs, v.oneCell' = true) → vcells I (List.replicate vs.length .any) vs
  | [], _ => by simp [vcells]
  | v :: vs, h => by
    simp only [List.length_cons, List.replicate_succ, vcells, vrep, true_and]
    exact ⟨h v (by simp), vcells_any fun u hu => h u (by simp [hu])⟩

theorem zeroCells_one {z : Array Value} (h : z.toList.all Value.oneCell' = true) (n : Nat) : ∀ v ∈ (Builtin.zeroCells z n).toList, v.oneCell' = true := by
  intro v hv
  unfold Builtin.zeroCells at hv
  simp only [Array.toList_map, List.mem_map, Array.toList_range, List.mem_range] at hv
  obtain ⟨j, hj, rfl⟩ := hv
  have hz : 0 < z.size := by
    rcases Nat.eq_zero_or_pos z.size with h0 | h0
    · rw [h0] at hj; simp at hj
    · exact h0
  have hlt := Nat.mod_lt j hz
  rw [getElem!_pos z (j % z.size) hlt]
  exact List.all_eq_true.1 h _ (Array.getElem_mem_toList ..)

/-- 'append' makes a new row. -/
theorem run_append_new {t tx ty e : TypeId} {i : TypeInfo} {z : Value} (ht : P.underlying t = some (.slice e)) (hi : P.info? e = some i) (hz : i.zero = some z)
    {d : TypeDesc} (htx : P.underlying tx = some d) (hd : ∀ k, d ≠ .int k) {base : Option Addr} {sLen sCap n : Nat} {x : Value} {olds news : List Value} {w : World}
    (hlen : ∀ w1, (Builtin.lenOf x).run P w1 = .ok n w1) (hfo : (Builtin.firstCells i.size sLen (.slice base sLen sCap)).run P w.drew = .ok olds.toArray w.drew)
    (hfx : (Builtin.firstCells i.size n x).run P w.drew = .ok news.toArray w.drew)
    (hg : sCap < sLen + n) (h63 : sLen + n ≤ 9223372036854775807) (hfit : Builtin.nextslicecap (sLen + n) sCap * i.bytes ≤ 281474976710656) :
    (Builtin.append_ #[t, tx] ty #[.slice base sLen sCap, x]).run P w =
      .ok (.slice (some ⟨w.heap.size, 0, none⟩) (sLen + n) (grownCap w (sLen + n) sCap e))
        (w.drew.alloc (.cells (olds.toArray ++ news.toArray ++ Builtin.zeroCells z.cells (grownCap w (sLen + n) sCap e - (sLen + n))) e)) := by
  have hn : ¬ (sLen + n ≤ sCap) := by omega
  have h63' : ¬ (9223372036854775807 < ((sLen : Int) + (n : Int))) := by omega
  have h48' : ¬ (281474976710656 < Builtin.nextslicecap (sLen + n) sCap * i.bytes) := by omega
  simp [Builtin.append_, run_underlying ht, run_underlying htx, sizeOf, typeInfo, zeroValue, hi, hz, hlen, hn, h63', h48', Question.forced, hfo, hfx, newRow, grownCap]
  congr 2
  apply Array.ext'
  simp [List.append_assoc]
theorem run_append_in {t tx ty e : TypeId} {i : TypeInfo} (ht : P.underlying t = some (.slice e)) (hi : P.info? e = some i)
    {d : TypeDesc} (htx : P.underlying tx = some d) (hd : ∀ k, d ≠ .int k) {base : Option Addr} {sLen sCap n : Nat} {x : Value} {news : List Value} {w : World}
    (hlen : ∀ w1, (Builtin.lenOf x).run P w1 = .ok n w1) (hfx : (Builtin.firstCells i.size n x).run P w = .ok news.toArray w) (hg : sLen + n ≤ sCap) :
    (Builtin.append_ #[t, tx] ty #[.slice base sLen sCap, x]).run P w =
      (match base with | some a => (storeCells (a.add (sLen * i.size)) news).run P w | none => .ok () w).andThen fun _ w' => .ok (.slice base (sLen + n) sCap) w' := by
  cases base <;> simp [Builtin.append_, run_underlying ht, run_underlying htx, sizeOf, typeInfo, hi, hlen, hg, hfx]

theorem zeroCells_nil {z : Array Value} {n : Nat} (h : n * z.size = 0) : Builtin.zeroCells z n = #[] := by
  simp [Builtin.zeroCells, h, Array.range_zero']
theorem run_append_new_z {t tx ty e : TypeId} {i : TypeInfo} {z : Value} (ht : P.underlying t = some (.slice e)) (hi : P.info? e = some i) (hz : i.zero = some z) (hzs : z.cells.size = i.size)
    {kx : IntKind} (htx : P.underlying tx = some (.int kx)) {base : Option Addr} {sLen sCap : Nat} {kn : IntKind} {m : Int} {olds : List Value} {w : World}
    (h0 : 0 ≤ m) (hm : m ≤ 9223372036854775807) (hmb : m * i.bytes ≤ 281474976710656) (hfo : (Builtin.firstCells i.size sLen (.slice base sLen sCap)).run P w.drew = .ok olds.toArray w.drew)
    (hg : sCap < sLen + m.toNat) (h63 : sLen + m.toNat ≤ 9223372036854775807) (hfit : Builtin.nextslicecap (sLen + m.toNat) sCap * i.bytes ≤ 281474976710656) :
    (Builtin.append_ #[t, tx] ty #[.slice base sLen sCap, .int kn m]).run P w =
      .ok (.slice (some ⟨w.heap.size, 0, none⟩) (sLen + m.toNat) (grownCap w (sLen + m.toNat) sCap e))
        (w.drew.alloc (.cells (olds.toArray ++ Builtin.zeroCells z.cells m.toNat ++ Builtin.zeroCells z.cells (grownCap w (sLen + m.toNat) sCap e - (sLen + m.toNat))) e)) := by
  have hw : IntKind.i64.wrap m = m := IntWalk.i64_in m ⟨by omega, hm⟩
  have hn : ¬ (sLen + m.toNat ≤ sCap) := by omega
  have h1 : ¬ m < 0 := by omega
  have h2 : ¬ (281474976710656 < m * (i.bytes : Int)) := by omega
  have h63' : ¬ (9223372036854775807 < ((sLen : Int) + (m.toNat : Int))) := by omega
  have h63'' : ¬ (9223372036854775807 < ((sLen : Int) + max m 0)) := by omega
  have h48' : ¬ (281474976710656 < Builtin.nextslicecap (sLen + m.toNat) sCap * i.bytes) := by omega
  by_cases hk : m.toNat * i.size = 0
  · have hzn : Builtin.zeroCells z.cells m.toNat = #[] := zeroCells_nil (by rw [hzs]; exact hk)
    rw [hzn]
    simp [Builtin.append_, run_underlying ht, run_underlying htx, sizeOf, typeInfo, zeroValue, hi, hz, asInt, asIntOf, hw, h1, h2, hn, hk, h63'', h48', Question.forced, hfo, newRow, grownCap]
  · simp [Builtin.append_, run_underlying ht, run_underlying htx, sizeOf, typeInfo, zeroValue, hi, hz, asInt, asIntOf, hw, h1, h2, hn, hk, h63'', h48', Question.forced, hfo, newRow, grownCap]
theorem run_append_in_z {t tx ty e : TypeId} {i : TypeInfo} {z : Value} (ht : P.underlying t = some (.slice e)) (hi : P.info? e = some i) (hz : i.zero = some z) (hzs : z.cells.size = i.size)
    {kx : IntKind} (htx : P.underlying tx = some (.int kx)) {base : Option Addr} {sLen sCap : Nat} {kn : IntKind} {m : Int} {w : World}
    (h0 : 0 ≤ m) (hm : m ≤ 9223372036854775807) (hmb : m * i.bytes ≤ 281474976710656) (hg : sLen + m.toNat ≤ sCap) :
    (Builtin.append_ #[t, tx] ty #[.slice base sLen sCap, .int kn m]).run P w =
      (match base with | some a => (storeCells (a.add (sLen * i.size)) (Builtin.zeroCells z.cells m.toNat).toList).run P w | none => .ok () w).andThen fun _ w' => .ok (.slice base (sLen + m.toNat) sCap) w' := by
  have hw : IntKind.i64.wrap m = m := IntWalk.i64_in m ⟨by omega, hm⟩
  have h1 : ¬ m < 0 := by omega
  have h2 : ¬ (281474976710656 < m * (i.bytes : Int)) := by omega
  by_cases hk : m.toNat * i.size = 0
  · have hzn : Builtin.zeroCells z.cells m.toNat = #[] := zeroCells_nil (by rw [hzs]; exact hk)
    rw [hzn]
    cases base <;> simp [Builtin.append_, run_underlying ht, run_underlying htx, sizeOf, typeInfo, hi, asInt, asIntOf, hw, h1, h2, hg, hk]
  · cases base <;> simp [Builtin.append_, run_underlying ht, run_underlying htx, sizeOf, typeInfo, zeroValue, hi, hz, asInt, asIntOf, hw, h1, h2, hg, hk]
theorem sget_sdel (b : Nat) : ∀ (st : Store) (c : Nat), sget (sdel b st) c = if c = b then none else sget st c
  | [], c => by simp [sdel, sget]
  | (d, o) :: st, c => by
    simp only [sdel]
    by_cases hd : d = b
    · subst hd
      simp only [if_true, sget_sdel d st c, sget]
      by_cases hc : c = d
      · simp [hc]
      · simp [hc, show ¬ d = c from fun e => hc e.symm]
    · simp only [hd, if_false, sget, sget_sdel b st c]
      by_cases hc : c = b
      · subst hc; simp [hd]
      · simp [hc]
theorem sfresh_sdel (b : Nat) : ∀ {st : Store} {n : Nat}, sfresh st n → sfresh (sdel b st) n
  | [], _, _ => trivial
  | (d, o) :: st, n, h => by
    simp only [sdel]
    split
    · exact sfresh_sdel b h.2
    · exact ⟨h.1, sfresh_sdel b h.2⟩
theorem snew_sdel (b : Nat) : ∀ (st : Store), snew (sdel b st) b
  | [] => trivial
  | (d, o) :: st => by
    simp only [sdel]
    split
    · exact snew_sdel b st
    · rename_i h; exact ⟨⟨h, fun e => h e.symm⟩, snew_sdel b st⟩
theorem SRep.del {I : Imm} {st : Store} {w : World} (h : SRep I st w) (b : Nat) : SRep I (sdel b st) w :=
  ⟨h.imm, fun c o hc => by
    rw [sget_sdel] at hc
    split at hc
    · cases hc
    · exact h.objs c o hc, sfresh_sdel b h.keys⟩
/-- An object put anew under its own number. -/
theorem SRep.renew {I : Imm} {st : Store} {w w' : World} (h : SRep I st w) {b : Nat} {o o' : PObj} {r' : Obj} (hb : sget st b = some o) (hr : orep I o' r') (hsz : w'.heap.size = w.heap.size) (hb' : w'.heap[b]? = some r')
    (hc : ∀ c, c ≠ b → w'.heap[c]? = w.heap[c]?) : SRep I ((b, o') :: sdel b st) w' := by
  have hlt := h.obj_lt hb
  obtain ⟨hI, -⟩ := h.objs b o hb
  refine ⟨fun c x hx => ?_, fun c x hx => ?_, ?_⟩
  · rw [hc c (fun e => by subst e; rw [hI] at hx; cases hx)]
    exact h.imm c x hx
  · simp only [sget] at hx
    split at hx
    · rename_i e; subst e; cases hx
      exact ⟨hI, r', hb', hr⟩
    · rename_i hne
      rw [sget_sdel, if_neg (fun e => hne e.symm)] at hx
      obtain ⟨h1, r, h2, h3⟩ := h.objs c x hx
      exact ⟨h1, r, by rw [hc c (fun e => hne e.symm)]; exact h2, h3⟩
  · rw [hsz]; exact ⟨hlt, sfresh_sdel b h.keys⟩
theorem setCells_split {α : Type} : ∀ (us cs : List α) (off : Nat), off + us.length ≤ cs.length → setCells cs off us = cs.take off ++ us ++ cs.drop (off + us.length)
  | [], cs, off, _ => by simp [setCells]
  | u :: us, cs, off, h => by
    simp only [List.length_cons] at h
    simp only [setCells]
    rw [setCells_split us (cs.set off u) (off + 1) (by simp; omega)]
    have e1 : (cs.set off u).take (off + 1) = cs.take off ++ [u] := by
      rw [List.take_add_one, List.take_set_of_le (Nat.le_refl _)]
      simp [show off < cs.length by omega]
    rw [e1, List.drop_set_of_lt (by omega)]
    simp [Nat.add_assoc, Nat.add_comm 1]

/-- What an operation that gives a value has come to. -/
def Comes (I : Imm) (w : World) (K : PV → Store → Prop) (r : Result Value) : Prop :=
  ∃ v w', r = .ok v w' ∧ Held I w (fun I' st' => ∃ p, vrep I' p v ∧ K p st') w'

theorem append_core0 {t tx ty e : TypeId} {i : TypeInfo} {z : Value} (hz1 : z.cells.toList.all Value.oneCell' = true) (hzs : z.cells.size = i.size) (hbytes : 0 < i.bytes)
    {I : Imm} {st : Store} {w : World} (hs : SRep I st w) {p : PV} {s x : Value} {new : List PV} {m : Nat} {K : PV → Store → Prop} (hp : vrep I p s) {us : List Value} (hu1 : vcells I new us) (hu2 : us.length = m * i.size)
    (hnew : ∀ {base : Option Addr} {sLen sCap : Nat} {olds : List Value}, (Builtin.firstCells i.size sLen (.slice base sLen sCap)).run P w.drew = .ok olds.toArray w.drew → m * i.bytes ≤ 281474976710656 →
      sCap < sLen + m → sLen + m ≤ 9223372036854775807 → Builtin.nextslicecap (sLen + m) sCap * i.bytes ≤ 281474976710656 → (Builtin.append_ #[t, tx] ty #[.slice base sLen sCap, x]).run P w =
      .ok (.slice (some ⟨w.heap.size, 0, none⟩) (sLen + m) (grownCap w (sLen + m) sCap e))
        (w.drew.alloc (.cells (olds.toArray ++ us.toArray ++ Builtin.zeroCells z.cells (grownCap w (sLen + m) sCap e - (sLen + m))) e)))
    (hin : ∀ {base : Option Addr} {sLen sCap : Nat}, m * i.bytes ≤ 281474976710656 → sLen + m ≤ sCap → (Builtin.append_ #[t, tx] ty #[.slice base sLen sCap, x]).run P w =
      (match base with | some a => (storeCells (a.add (sLen * i.size)) us).run P w | none => .ok () w).andThen fun _ w' => .ok (.slice base (sLen + m) sCap) w')
    (hk : appendK0 e i.bytes i.size p new m st K) : Comes I w K ((Builtin.append_ #[t, tx] ty #[s, x]).run P w) := by
  -- growth
  have grow : ∀ (base : Option Addr) (sLen sCap : Nat) (olds : List Value) (oldps : List PV) (st' : Store), s = .slice base sLen sCap → SRep I st' w → vcells I oldps olds →
      (Builtin.firstCells i.size sLen s).run P w.drew = .ok olds.toArray w.drew → sCap < sLen + m →
      growK0 e i.bytes i.size (oldps ++ new) (sLen + m) st' K → Comes I w K ((Builtin.append_ #[t, tx] ty #[s, x]).run P w) := by
    rintro base sLen sCap olds oldps st' rfl hs' hc hfo hlt ⟨h47, hK⟩
    have h63 : sLen + m ≤ 9223372036854775807 := by
      have : (sLen + m) * 1 ≤ (sLen + m) * i.bytes := Nat.mul_le_mul_left _ hbytes
      omega
    have hmb : m * i.bytes ≤ (sLen + m) * i.bytes := Nat.mul_le_mul_right _ (Nat.le_add_left _ _)
    rw [hnew hfo (by omega) hlt h63 (growslice_fits hlt h47)]
    refine ⟨_, _, rfl, I, _, I.le_refl, ⟨rfl, rfl, rfl, by simp⟩, hs'.drew.alloc (o := .arr e (oldps ++ new ++ List.replicate ((grownCap w (sLen + m) sCap e - (sLen + m)) * i.size) .any)) ?_, _, vrep_val,
      hK w.heap.size (grownCap w (sLen + m) sCap e) (snew_of hs'.keys) (grownCap_ge _ _ _ _) ?_⟩
    · refine ⟨olds ++ us ++ (Builtin.zeroCells z.cells (grownCap w (sLen + m) sCap e - (sLen + m))).toList, by simp, vcells_append (vcells_append hc hu1) ?_⟩
      have := vcells_any (I := I) (zeroCells_one hz1 (grownCap w (sLen + m) sCap e - (sLen + m)))
      rwa [Array.length_toList, size_zeroCells, hzs] at this
    · have := grownCap_le_maxLen w (sLen + m) sCap e (by unfold maxLen; omega)
      unfold maxLen at this; omega
  unfold appendK0 at hk
  split at hk
  · simp only [vrep] at hp
    subst hp
    split at hk
    · rename_i hm
      subst hm
      rw [hin (by omega) (Nat.le_refl 0)]
      exact ⟨_, _, rfl, I, st, I.le_refl, Calm.refl w, hs, .val (.slice none 0 0), vrep_val, hk⟩
    · exact grow none 0 0 [] [] st rfl hs (by simp [vcells]) (by simpa using run_firstCells_none (P := P) w.drew i.size 0 0 0) (by omega) (by simpa using hk)
  · rename_i tt cs n
    split at hk
    · rename_i hm
      subst hm
      have hp' := hp
      simp only [vrep] at hp
      obtain ⟨a, cap, ws, rfl, h1, h2, h3, h4, h5⟩ := hp
      have hus : us = [] := by
        have : us.length = 0 := by rw [hu2]; simp
        exact List.length_eq_zero_iff.1 this
      subst hus
      have hr := hin (base := a) (sLen := n) (sCap := cap) (by omega) (by omega)
      simp only [Nat.add_zero] at hr
      rw [hr]
      refine ⟨_, w, ?_, I, st, I.le_refl, Calm.refl w, hs, _, hp', hk⟩
      cases a <;> rfl
    · obtain ⟨htt, hlen, hk⟩ := hk
      subst htt
      have hsrc' : srcCells i.size st (.list true cs n) = some (cs, n) := by simp [srcCells, hlen]
      obtain ⟨vs, hv1, hv2, -, hv4⟩ := src_sound (P := P) hs hp hsrc'
      have hp' := hp
      simp only [vrep] at hp
      obtain ⟨a, cap, ws, rfl, h1, h2, h3, h4, h5⟩ := hp
      have h3 := h3 trivial
      subst h3
      refine grow a cap cap vs cs st rfl hs hv1 ?_ (by omega) hk
      have := hv4 w.drew rfl cap (Nat.le_refl _)
      rwa [List.take_of_length_le (by rw [hv2]; exact Nat.le_refl _)] at this
  · rename_i b off n cap
    split at hk
    · rename_i T' row hb
      obtain ⟨rfl, hrow, hnc, hcm, hk⟩ := hk
      simp only [vrep] at hp
      subst hp
      obtain ⟨hI, r, hw0, vs, rfl, hcv⟩ := hs.objs b _ hb
      have hlv : vs.length = row.length := (vcells_length hcv).symm
      have hnk : n * i.size ≤ cap * i.size := Nat.mul_le_mul_right _ hnc
      have hmb : m * i.bytes ≤ (n + m) * i.bytes := Nat.mul_le_mul_right _ (Nat.le_add_left _ _)
      -- the old elements, as they are read
      have olds : (Builtin.firstCells i.size n (.slice (some ⟨b, off, none⟩) n cap)).run P w.drew = .ok ((vs.drop off).take (n * i.size)).toArray w.drew := by
        refine run_firstCells_some w.drew i.size n _ n cap _ (by rw [List.length_take, List.length_drop]; omega) fun j u hu => ?_
        rw [addr_add]
        have hcell : w.drew.cell? ⟨b, off + j, none⟩ = w.cell? ⟨b, off + j, none⟩ := rfl
        rw [hcell, cell_row hw0]
        rw [List.getElem?_take] at hu
        split at hu
        · rw [List.getElem?_drop] at hu; simpa using hu
        · cases hu
      have hold : vcells I ((row.drop off).take (n * i.size)) ((vs.drop off).take (n * i.size)) := vcells_take _ (vcells_drop _ hcv)
      by_cases hroom : n + m ≤ cap
      · have h47 : (n + m) * i.bytes ≤ 140737488355328 := by rcases hk with ⟨-, -, h, -⟩ | ⟨h, -⟩ <;> exact h
        rw [hin (by omega) hroom]
        have hfit : off + n * i.size + us.length ≤ vs.length := by
          have : (n + m) * i.size ≤ cap * i.size := Nat.mul_le_mul_right _ hroom
          rw [Nat.add_mul] at this
          rw [hu2, hlv]; omega
        obtain ⟨w', hr1, hr2, hr3, hr4, hr5⟩ := storeCells_run (P := P) us 0 (off + n * i.size) vs w hw0 (by omega) (vcells_one hu1)
        simp only [addr_add, hr1, Result.andThen_ok]
        rcases hk with ⟨rfl, hrl, hk⟩ | ⟨-, hk, -⟩
        · refine ⟨_, w', rfl, I, _, I.le_refl, hr2, hs.renew (o' := .arr T' (row.take (n * i.size) ++ new ++ List.replicate ((cap - (n + m)) * i.size) .any)) hb ⟨_, rfl, ?_⟩ hr3 hr4 hr5, _, vrep_val,
            hk.2 b cap (snew_sdel b st) hroom hcm⟩
          rw [setCells_split _ _ _ (by omega)]
          simp only [Nat.zero_add, Nat.add_zero]
          refine vcells_append (vcells_append (vcells_take _ hcv) hu1) ?_
          have h1 := vcells_any (I := I) (vs := vs.drop (n * i.size + us.length)) (fun v hv => vcells_one hcv v (List.mem_of_mem_drop hv))
          have e : (cap - (n + m)) * i.size = (vs.drop (n * i.size + us.length)).length := by
            rw [List.length_drop, hlv, hrl, hu2, ← Nat.add_mul, ← Nat.sub_mul]
          rw [e]
          exact h1
        · refine ⟨_, w', rfl, I, _, I.le_refl, hr2, hs.put (o' := .arr T' (setCells row (off + n * i.size) new)) hb ⟨_, rfl, ?_⟩ hr3 hr4 hr5, _, vrep_val, hk hroom⟩
          rw [Nat.add_zero]
          exact vcells_setCells _ hu1 hcv
      · rcases hk with ⟨rfl, hrl, hk⟩ | ⟨-, -, hk⟩
        · exact grow (some ⟨b, 0, none⟩) n cap _ (row.take (n * i.size)) (sdel b st) rfl (hs.del b) (by simpa using hold) olds (by omega) hk
        · exact grow (some ⟨b, off, none⟩) n cap _ _ st rfl hs hold olds (by omega) (hk (by omega))
    · exact hk.elim
  · exact hk.elim
/-- What is behind a new block may be seen as never written any more. -/
theorem SRep.freeze0 {I : Imm} {st : Store} {w : World} {b : Nat} {o : PObj} (h : SRep I ((b, o) :: st) w) (hn : snew st b) : ∃ I', I.le I' ∧ SRep I' st w ∧ ∃ r, I' b = some r ∧ orep I' o r := by
  obtain ⟨hI, r, hr, ho⟩ := h.objs b o (by simp [sget])
  have hle : I.le (I.add b r) := by
    intro c x hc
    unfold Imm.add
    rw [if_neg (by rintro rfl; rw [hI] at hc; cases hc)]
    exact hc
  refine ⟨I.add b r, hle, ⟨fun c x hc => ?_, fun c x hc => ?_, h.keys.2⟩, r, by simp [Imm.add], orep_mono hle ho⟩
  · unfold Imm.add at hc
    split at hc
    · rename_i e; subst e; cases hc; exact hr
    · exact h.imm c x hc
  · have hne : c ≠ b := by rintro rfl; rw [snew_get hn] at hc; cases hc
    obtain ⟨h1, r', h2, h3⟩ := h.objs c x (by simp only [sget]; rw [if_neg (fun e : b = c => hne e.symm)]; exact hc)
    refine ⟨by simp [Imm.add, hne, h1], r', h2, orep_mono hle h3⟩
/-- Behind 'append': a new row that may be seen as one that is never written again. -/
def frzK (k : Nat) (K : PV → Store → Prop) (p : PV) (st : Store) : Prop :=
  K p st ∨ ∃ b need cap T cs rest st0, p = .own b 0 need cap ∧ st = (b, .arr T (cs ++ rest)) :: st0 ∧ snew st0 b ∧ need ≤ cap ∧ cap ≤ 9223372036854775807 ∧ cs.length = need * k ∧ K (.list false cs need) st0
theorem Comes.frz {I : Imm} {w : World} {k : Nat} {K : PV → Store → Prop} {r : Result Value} (h : Comes I w (frzK k K) r) : Comes I w K r := by
  obtain ⟨v, w', hr, I', st', h1, h2, h3, p, h4, h5⟩ := h
  rcases h5 with h5 | ⟨b, need, cap, T, cs, rest, st0, rfl, rfl, hn, hc1, hc2, hl, hK⟩
  · exact ⟨v, w', hr, I', st', h1, h2, h3, p, h4, h5⟩
  · obtain ⟨I2, i1, i2, r2, i3, vs, i4, i5⟩ := h3.freeze0 hn
    subst i4
    refine ⟨v, w', hr, I2, st0, Imm.le_trans h1 i1, h2, i2, _, ?_, hK⟩
    simp only [vrep] at h4 ⊢
    subst h4
    have hcs : vcells I2 cs (vs.take cs.length) := by
      have := vcells_take cs.length i5
      rwa [List.take_left' rfl] at this
    refine ⟨_, cap, vs.take cs.length, rfl, hc1, by unfold maxLen; exact hc2, by simp, hcs, .inr ⟨b, 0, rfl, _, T, _, i3, fun j u hj => ?_⟩⟩
    rw [List.getElem?_take] at hj
    split at hj
    · simpa using hj
    · cases hj
theorem growK_imp {T : TypeId} {bytes k : Nat} {cs : List PV} {need : Nat} {st : Store} {K : PV → Store → Prop} (h : growK T bytes k cs need st K) : growK0 T bytes k cs need st (frzK k K) := by
  obtain ⟨h1, h2 | ⟨h2, h3⟩⟩ := h
  · exact ⟨h1, fun b cap a1 a2 a3 => .inl (h2 b cap a1 a2 a3)⟩
  · exact ⟨h1, fun b cap a1 a2 a3 => .inr ⟨b, need, cap, T, cs, _, st, rfl, rfl, a1, a2, a3, h2, h3⟩⟩
theorem appendK_imp {T : TypeId} {bytes k : Nat} {p : PV} {new : List PV} {m : Nat} {st : Store} {K : PV → Store → Prop} (h : appendK T bytes k p new m st K) : appendK0 T bytes k p new m st (frzK k K) := by
  unfold appendK at h
  unfold appendK0
  split at h
  · split at h
    · rw [if_pos (by assumption)]; exact .inl h
    · rw [if_neg (by assumption)]; exact growK_imp h
  · split at h
    · rw [if_pos (by assumption)]; exact .inl h
    · rw [if_neg (by assumption)]; exact ⟨h.1, h.2.1, growK_imp h.2.2⟩
  · rename_i b off n cap
    split at h
    · rename_i T' row hb
      obtain ⟨a1, a2, a3, a4, a5 | a5⟩ := h
      · exact ⟨a1, a2, a3, a4, .inl ⟨a5.1, a5.2.1, growK_imp a5.2.2⟩⟩
      · exact ⟨a1, a2, a3, a4, .inr ⟨a5.1, fun h => .inl (a5.2.1 h), fun h => growK_imp (a5.2.2 h)⟩⟩
    · exact h.elim
  · exact h.elim
theorem append_core {t tx ty e : TypeId} {i : TypeInfo} {z : Value} (hz1 : z.cells.toList.all Value.oneCell' = true) (hzs : z.cells.size = i.size) (hbytes : 0 < i.bytes)
    {I : Imm} {st : Store} {w : World} (hs : SRep I st w) {p : PV} {s x : Value} {new : List PV} {m : Nat} {K : PV → Store → Prop} (hp : vrep I p s) {us : List Value} (hu1 : vcells I new us) (hu2 : us.length = m * i.size)
    (hnew : ∀ {base : Option Addr} {sLen sCap : Nat} {olds : List Value}, (Builtin.firstCells i.size sLen (.slice base sLen sCap)).run P w.drew = .ok olds.toArray w.drew → m * i.bytes ≤ 281474976710656 →
      sCap < sLen + m → sLen + m ≤ 9223372036854775807 → Builtin.nextslicecap (sLen + m) sCap * i.bytes ≤ 281474976710656 → (Builtin.append_ #[t, tx] ty #[.slice base sLen sCap, x]).run P w =
      .ok (.slice (some ⟨w.heap.size, 0, none⟩) (sLen + m) (grownCap w (sLen + m) sCap e))
        (w.drew.alloc (.cells (olds.toArray ++ us.toArray ++ Builtin.zeroCells z.cells (grownCap w (sLen + m) sCap e - (sLen + m))) e)))
    (hin : ∀ {base : Option Addr} {sLen sCap : Nat}, m * i.bytes ≤ 281474976710656 → sLen + m ≤ sCap → (Builtin.append_ #[t, tx] ty #[.slice base sLen sCap, x]).run P w =
      (match base with | some a => (storeCells (a.add (sLen * i.size)) us).run P w | none => .ok () w).andThen fun _ w' => .ok (.slice base (sLen + m) sCap) w')
    (hk : appendK e i.bytes i.size p new m st K) : Comes I w K ((Builtin.append_ #[t, tx] ty #[s, x]).run P w) :=
  (append_core0 hz1 hzs hbytes hs hp hu1 hu2 hnew hin (appendK_imp hk)).frz
theorem append_sound {t tx ty e : TypeId} {i : TypeInfo} {z : Value} (ht : P.underlying t = some (.slice e)) (hi : P.info? e = some i) (hz : i.zero = some z) (hz1 : z.cells.toList.all Value.oneCell' = true) (hzs : z.cells.size = i.size)
    (hbytes : 0 < i.bytes) {d : TypeDesc} (htx : P.underlying tx = some d) (hd : ∀ k, d ≠ .int k)
    {I : Imm} {st : Store} {w : World} (hs : SRep I st w) {p q : PV} {s x : Value} {new : List PV} {m : Nat} {K : PV → Store → Prop} (hp : vrep I p s) (hq : vrep I q x) (hsrc : srcCells i.size st q = some (new, m))
    (hk : appendK e i.bytes i.size p new m st K) : Comes I w K ((Builtin.append_ #[t, tx] ty #[s, x]).run P w) := by
  obtain ⟨us, hu1, hu2, hu3, hu4⟩ := src_sound (P := P) hs hq hsrc
  have full : ∀ w1 : World, w1.heap = w.heap → (Builtin.firstCells i.size m x).run P w1 = .ok us.toArray w1 := by
    intro w1 hw
    have := hu4 w1 hw m (Nat.le_refl m)
    rwa [List.take_of_length_le (by rw [hu2]; exact Nat.le_refl _)] at this
  exact append_core hz1 hzs hbytes hs hp hu1 hu2 (fun hfo _ hlt h63 hfit => run_append_new ht hi hz htx hd hu3 hfo (full _ rfl) hlt h63 hfit) (fun _ hr => run_append_in ht hi htx hd hu3 (full w rfl) hr) hk
end Go.Pv
/- The compact code is met by the model's own: copy, make of slices. -/
namespace Go.Pv
variable {P : Program}

theorem vcells_flat {I : Imm} {zs : List PV} {vs : List Value} (h : vcells I zs vs) : ∀ n : Nat, vcells I (List.replicate n zs).flatten (List.replicate n vs).flatten
  | 0 => by simp [vcells]
  | n + 1 => by
    simp only [List.replicate_succ, List.flatten_cons]
    exact vcells_append h (vcells_flat h n)
theorem flat_rep_get {α : Type} (vs : List α) : ∀ (n j : Nat), j < n * vs.length → (List.replicate n vs).flatten[j]? = vs[j % vs.length]?
  | 0, j, h => by simp at h
  | n + 1, j, h => by
    simp only [List.replicate_succ, List.flatten_cons]
    by_cases hj : j < vs.length
    · rw [List.getElem?_append_left hj, Nat.mod_eq_of_lt hj]
    · have hj' : vs.length ≤ j := by omega
      rw [List.getElem?_append_right hj', flat_rep_get vs n (j - vs.length) (by rw [Nat.succ_mul] at h; omega), ← Nat.mod_eq_sub_mod hj']
theorem madeCells_eq (z : Array Value) (n : Nat) : (madeCells z (n * z.size)).toList = (List.replicate n z.toList).flatten := by
  apply List.ext_getElem?
  intro j
  by_cases hj : j < n * z.size
  · rw [flat_rep_get _ _ _ (by simpa using hj)]
    have hz : 0 < z.size := by
      rcases Nat.eq_zero_or_pos z.size with h0 | h0
      · rw [h0] at hj; simp at hj
      · exact h0
    have hlt := Nat.mod_lt j hz
    simp only [madeCells, Array.toList_map, Array.toList_range, List.getElem?_map, List.getElem?_range hj, Option.map_some, Array.length_toList]
    rw [getElem!_pos z _ hlt]
    simp [hlt]
  · rw [List.getElem?_eq_none (by rw [Array.length_toList, size_madeCells]; omega), List.getElem?_eq_none]
    have : ∀ n : Nat, (List.replicate n z.toList).flatten.length = n * z.size := by
      intro n
      simp [List.length_flatten]
    rw [this]; omega

theorem zeroCells_eq (z : Array Value) (n : Nat) : (Builtin.zeroCells z n).toList = (List.replicate n z.toList).flatten := madeCells_eq z n
theorem appendZ_sound {t tx ty e : TypeId} {i : TypeInfo} {z : Value} (ht : P.underlying t = some (.slice e)) (hi : P.info? e = some i) (hz : i.zero = some z) (hz1 : z.cells.toList.all Value.oneCell' = true) (hzs : z.cells.size = i.size)
    (hbytes : 0 < i.bytes) {zs : List PV} (hzc : ∀ I, vcells I zs z.cells.toList) {kx : IntKind} (htx : P.underlying tx = some (.int kx))
    {I : Imm} {st : Store} {w : World} (hs : SRep I st w) {p : PV} {s : Value} {kn : IntKind} {m : Int} (h0 : 0 ≤ m) (hm : m ≤ 9223372036854775807) {K : PV → Store → Prop} (hp : vrep I p s)
    (hk : appendK e i.bytes i.size p (List.replicate m.toNat zs).flatten m.toNat st K) : Comes I w K ((Builtin.append_ #[t, tx] ty #[s, .int kn m]).run P w) := by
  have hl : (Builtin.zeroCells z.cells m.toNat).toList.length = m.toNat * i.size := by rw [Array.length_toList, size_zeroCells, hzs]
  have hu1 : vcells I (List.replicate m.toNat zs).flatten (Builtin.zeroCells z.cells m.toNat).toList := by
    rw [zeroCells_eq]
    exact vcells_flat (hzc I) _
  have hmb : ∀ {B : Nat}, m.toNat * i.bytes ≤ B → m * (i.bytes : Int) ≤ (B : Nat) := by
    intro B h
    have e : m = (m.toNat : Int) := by omega
    rw [e]
    exact_mod_cast h
  refine append_core hz1 hzs hbytes hs hp hu1 hl (fun hfo hb hlt h63 hfit => ?_) (fun hb hr => ?_) hk
  · rw [run_append_new_z ht hi hz hzs htx h0 hm (hmb hb) hfo hlt h63 hfit]
  · exact run_append_in_z ht hi hz hzs htx h0 hm (hmb hb) hr
theorem mkSlice_sound {t e : TypeId} {i : TypeInfo} {z : Value} (ht : P.underlying t = some (.slice e)) (hi : P.info? e = some i) (hz : i.zero = some z) (hzs : z.cells.size = i.size) {zs : List PV} (hzc : ∀ I, vcells I zs z.cells.toList)
    {I : Imm} {st : Store} {w : World} (hs : SRep I st w) {kl kc : IntKind} {l c : Int} {K : PV → Store → Prop}
    (hk : 0 ≤ l ∧ l ≤ c ∧ c * i.bytes ≤ 281474976710656 ∧ c ≤ 9223372036854775807 ∧ ∀ b, snew st b → K (.own b 0 l.toNat c.toNat) ((b, .arr e (List.replicate c.toNat zs).flatten) :: st)) :
    Comes I w K ((Instr.makeSlice t (.int kl l) (.int kc c)).run P w) := by
  obtain ⟨h0, h1, h2, h3, hK⟩ := hk
  rw [run_make w t e i z ht hi hz kl kc l c h0 h1 (by rw [Int.mul_comm]; exact h2) h3]
  refine ⟨_, _, rfl, I, _, I.le_refl, ⟨rfl, rfl, rfl, by simp⟩, hs.alloc (o := .arr e (List.replicate c.toNat zs).flatten) ⟨(madeCells z.cells (c.toNat * i.size)).toList, by simp, ?_⟩, _, vrep_val, hK w.heap.size (snew_of hs.keys)⟩
  rw [← hzs, madeCells_eq]
  exact vcells_flat (hzc I) _

theorem copy_sound {t tx ty e : TypeId} {k : Nat} (ht : P.underlying t = some (.slice e)) {a : Bool} (hl : lay P e = some (k, a))
    {I : Imm} {st : Store} {w : World} (hs : SRep I st w) {p q : PV} {s x : Value} {new : List PV} {m : Nat} {K : PV → Store → Prop} (hp : vrep I p s) (hq : vrep I q x) (hsrc : srcCells k st q = some (new, m))
    (hk : copyK k p new m st K) : Comes I w K ((Builtin.copy_ #[t, tx] ty #[s, x]).run P w) := by
  obtain ⟨us, hu1, hu2, hu3, hu4⟩ := src_sound (P := P) hs hq hsrc
  unfold copyK at hk
  split at hk
  · simp only [vrep] at hp
    subst hp
    have h1 := hu4 w rfl 0 (Nat.zero_le _)
    refine ⟨.int .i64 0, w, ?_, I, st, I.le_refl, Calm.refl w, hs, _, vrep_val, hk⟩
    simp [Builtin.copy_, run_underlying ht, hu3, lay_size hl, h1, goInt]
  · rename_i tt cs
    simp only [vrep] at hp
    obtain ⟨ad, cap, ws, rfl, -⟩ := hp
    have h1 := hu4 w rfl 0 (Nat.zero_le _)
    refine ⟨.int .i64 0, w, ?_, I, st, I.le_refl, Calm.refl w, hs, _, vrep_val, hk⟩
    have hst : ∀ ad : Addr, (storeCells ad ([] : List Value)).run P w = .ok () w := fun ad => rfl
    cases ad <;> simp [Builtin.copy_, run_underlying ht, hu3, lay_size hl, h1, goInt, hst]
  · rename_i b off n cap
    simp only [vrep] at hp
    subst hp
    split at hk
    · rename_i T row hb
      obtain ⟨hfit, hK⟩ := hk
      have h1 := hu4 w rfl (min m n) (Nat.min_le_left _ _)
      obtain ⟨hI, r, hw0, vs, rfl, hcv⟩ := hs.objs b _ hb
      have htl : (us.take (min m n * k)).length = min m n * k := by
        rw [List.length_take, hu2]
        exact Nat.min_eq_left (Nat.mul_le_mul_right k (Nat.min_le_left _ _))
      obtain ⟨w', hr1, hr2, hr3, hr4, hr5⟩ := storeCells_run (P := P) (us.take (min m n * k)) 0 off vs w hw0 (by rw [htl, ← vcells_length hcv]; omega) (vcells_one (vcells_take _ hu1))
      refine ⟨.int .i64 (min m n : Nat), w', ?_, I, _, I.le_refl, hr2, hs.put hb (o' := .arr T (setCells row off (new.take (min m n * k)))) ⟨_, rfl, ?_⟩ hr3 hr4 hr5, _, vrep_val, hK⟩
      · have hmin : Nat.min m n = min m n := rfl
        simp [Builtin.copy_, run_underlying ht, hu3, lay_size hl, hmin, h1, hr1, goInt]
      · rw [Nat.add_zero]
        exact vcells_setCells off (vcells_take _ hu1) hcv
    · exact hk.elim
  · exact hk.elim
end Go.Pv
