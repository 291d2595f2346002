/- The compact code is met by the model's own: maps that are written. -/
import Derived.Test.YtliglilanpfjhaaLSc0
import Derived.Maps.RangeRun
namespace Go.Pv
variable {P : Program}

theorem kidx_sound {kp : KP} {kv : Value} : ∀ {ks : List Value} {j : Nat}, kidx kp kv ks = some (some j) → ks[j]? = some kv
  | [], j, h => by simp [kidx] at h
  | k :: ks, j, h => by
    simp only [kidx] at h
    split at h
    · rename_i hb
      simp only [Option.some.injEq] at h
      subst h
      obtain ⟨us, vs, rfl, rfl, h3, -⟩ := keyCells_spec hb
      rw [leafEqs_true h3]
      rfl
    · simp only [Option.map_eq_some_iff] at h
      obtain ⟨r, hr, h⟩ := h
      cases r with
      | none => simp at h
      | some j' =>
        simp only [Option.some.injEq] at h
        obtain ⟨_, rfl, rfl⟩ := h
        simpa using kidx_sound hr
    · cases h
theorem kidx_leafs {kp : KP} {kv : Value} : ∀ {ks : List Value} {j : Nat}, kidx kp kv ks = some (some j) → ∃ us, kv = mkV kp.1 us ∧ leafEqs kp.2 us us = some true
  | [], j, h => by simp [kidx] at h
  | k :: ks, j, h => by
    simp only [kidx] at h
    split at h
    · rename_i hb
      obtain ⟨us, vs, rfl, rfl, h3, -⟩ := keyCells_spec hb
      obtain rfl := leafEqs_true h3
      exact ⟨us, rfl, h3⟩
    · simp only [Option.map_eq_some_iff] at h
      obtain ⟨r, hr, h⟩ := h
      cases r with
      | none => simp at h
      | some j' => exact kidx_leafs hr
    · cases h
theorem sameBits_key {kp : KP} {kv : Value} {ks : List Value} {j : Nat} (hf : keyFits kp kv = true) (h : kidx kp kv ks = some (some j)) : Instr.sameBits 10000 kv kv = true := by
  obtain ⟨us, rfl, h2⟩ := kidx_leafs h
  obtain ⟨a, lk⟩ := kp
  cases a with
  | true =>
    simp only [mkV, if_true]
    show Instr.sameBits (9999 + 1) _ _ = true
    simp only [Instr.sameBits, beq_self_eq_true, Bool.true_and]
    have := sameBits_leafs (n := 9999) h2
    simpa using this
  | false =>
    simp only [mkV, Bool.false_eq_true, if_false]
    cases us with
    | nil =>
      cases lk with
      | nil => simp [keyFits] at hf
      | cons => simp [leafEqs] at h2
    | cons u us =>
      cases lk with
      | nil => simp [leafEqs] at h2
      | cons l lk =>
        simp only [leafEqs] at h2
        split at h2
        · rename_i a b ha hb
          exact sameBits_leaf ha _
        · cases h2

theorem vreps_set {I : Imm} {p : PV} {v : Value} (hp : vrep I p v) : ∀ {ps : List PV} {vs : List Value} (j : Nat), vreps I ps vs → vreps I (ps.set j p) (vs.set j v)
  | [], [], k, _ => by simp [vreps]
  | [], _ :: _, _, h => by simp [vreps] at h
  | _ :: _, [], _, h => by simp [vreps] at h
  | _ :: _, _ :: _, 0, h => by simp only [vreps] at h; simp only [List.set_cons_zero, vreps]; exact ⟨hp, h.2⟩
  | _ :: _, _ :: _, k + 1, h => by simp only [vreps] at h; simp only [List.set_cons_succ, vreps]; exact ⟨h.1, vreps_set hp k h.2⟩
theorem vreps_erase {I : Imm} : ∀ {ps : List PV} {vs : List Value} (j : Nat), vreps I ps vs → vreps I (ps.eraseIdx j) (vs.eraseIdx j)
  | [], [], k, _ => by simp [vreps]
  | [], _ :: _, _, h => by simp [vreps] at h
  | _ :: _, [], _, h => by simp [vreps] at h
  | _ :: _, _ :: _, 0, h => by simp only [vreps] at h; simpa using h.2
  | _ :: _, _ :: _, k + 1, h => by simp only [vreps] at h; simp only [List.eraseIdx_cons_succ, vreps]; exact ⟨h.1, vreps_erase k h.2⟩

theorem setMap_run {r : Nat} {es : Array MapEntry} {clock : Nat} {w : World} (h : w.heap[r]? = some (.map es clock)) (o : Obj) : (setObj r o).run P w = .ok () { w with heap := w.heap.setIfInBounds r o } := by
  simp [setObj, Sem.run, h]
theorem SRep.setMap {I : Imm} {st : Store} {w : World} (hs : SRep I st w) {b : Nat} {o o' : PObj} {r' : Obj} (hb : sget st b = some o) (hr : orep I o' r') :
    SRep I (sset st b o') { w with heap := w.heap.setIfInBounds b r' } := by
  have hlt := hs.obj_lt hb
  refine hs.put hb hr (by simp) ?_ ?_
  · simp [hlt]
  · intro c hc
    simp [show ¬ b = c from fun e => hc e.symm]

theorem mapSet_sound {t kt et : TypeId} (ht : P.underlying t = some (.map kt et)) {kp : KP} (hk : keyPlan P kt = some kp)
    {I : Imm} {st : Store} {w : World} (hs : SRep I st w) {q p : PV} {x v : Value} (hq : vrep I q x) (hp : vrep I p v) {kv : Value} (h2 : q.key? = some kv) {b : Nat} {ks : List Value} {vs : List PV} (hb : sget st b = some (.map ks vs))
    (hf : keyFits kp kv = true) {r : Option Nat} (h3 : kidx kp kv ks = some r) :
    ∃ w', (Instr.mapUpdate t (.map (some b)) x v).run P w = .ok () w' ∧ Calm w w' ∧ SRep I (sset st b (match r with | some j => .map (ks.set j kv) (vs.set j p) | none => .map (ks ++ [kv]) (vs ++ [p]))) w' := by
  obtain ⟨hI, ro, hro, es, clock, rfl, he1, he2, he3, he4⟩ := hs.objs b _ hb
  obtain rfl := key?_spec hq h2
  obtain ⟨us, hus, hul⟩ := keyFits_spec hf
  have hck := checkKey_run hk hul false w
  rw [← hus] at hck
  have hfk := findKey_run (w := w) hk (es := es.toList) (by rw [he1]; exact h3)
  cases r with
  | some j =>
    have hj := kidx_lt h3
    have hjs := kidx_sound h3
    have hel : j < es.size := by rw [← he1] at hj; simpa using hj
    have hkey : ((es[j]?).map (·.key)).getD x = x := by
      rw [← he1, List.getElem?_map] at hjs
      simp only [Array.getElem?_toList] at hjs
      rw [hjs]; rfl
    have hfound : found es.toList 0 (some j) = some (j, ((es[j]?).map (·.val)).getD undef) := by simp [found]
    rw [hfound] at hfk
    have hstay : (Instr.keyThatStays x x).run P w = .ok x w := by simp [Instr.keyThatStays, sameBits_key hf h3]
    refine ⟨{ w with heap := w.heap.setIfInBounds b (.map (es.modify j fun e => { e with key := x, val := v }) clock) }, ?_, ⟨rfl, rfl, rfl, by simp⟩, hs.setMap hb ?_⟩
    · simp [Instr.mapUpdate, run_underlying ht, getMap_run hro, hck, hfk, hkey, hstay, setMap_run hro]
    · refine ⟨_, clock, rfl, ?_, ?_, ?_, ?_⟩
      · apply List.ext_getElem?
        intro n
        rw [← he1]
        simp only [Array.toList_modify, List.getElem?_map, List.getElem?_modify, List.getElem?_set, List.length_map, Array.length_toList]
        by_cases hn : j = n
        · subst hn
          simp [hel]
        · simp [hn]
      · have : (es.modify j fun e => { e with key := x, val := v }).toList.map (·.val) = (es.toList.map (·.val)).set j v := by
          apply List.ext_getElem?
          intro n
          simp only [Array.toList_modify, List.getElem?_map, List.getElem?_modify, List.getElem?_set, List.length_map, Array.length_toList]
          by_cases hn : j = n
          · subst hn
            simp [hel]
          · simp [hn]
        rw [this]
        exact vreps_set hp j he2
      · have : (es.modify j fun e => { e with key := x, val := v }).toList.map (·.born) = es.toList.map (·.born) := by
          apply List.ext_getElem?
          intro n
          simp only [Array.toList_modify, List.getElem?_map, List.getElem?_modify]
          by_cases hn : j = n
          · subst hn
            simp [hel]
          · simp [hn]
        rw [this]
        exact he3
      · intro e he
        obtain ⟨n, hn⟩ := Array.getElem?_of_mem he
        rw [Array.getElem?_modify] at hn
        cases hen : es[n]? with
        | none => simp [hen] at hn
        | some e0 =>
          have h0 := he4 e0 (Array.mem_of_getElem? hen)
          rw [hen] at hn
          split at hn
          · simp only [Option.map_some, Option.some.injEq] at hn
            rw [← hn]; exact h0
          · simp only [Option.some.injEq] at hn
            rw [← hn]; exact h0
  | none =>
    have hfound : found es.toList 0 none = none := rfl
    rw [hfound] at hfk
    refine ⟨{ w with heap := w.heap.setIfInBounds b (.map (es.push { key := x, val := v, born := clock }) (clock + 1)) }, ?_, ⟨rfl, rfl, rfl, by simp⟩, hs.setMap hb ?_⟩
    · simp [Instr.mapUpdate, run_underlying ht, getMap_run hro, hck, hfk, setMap_run hro]
    · refine ⟨_, clock + 1, rfl, ?_, ?_, ?_, ?_⟩
      · simp [he1]
      · simp only [Array.toList_push, List.map_append, List.map_cons, List.map_nil]
        exact vreps_append he2 (by simp [vreps, hp])
      · simp only [Array.toList_push, List.map_append, List.map_cons, List.map_nil]
        rw [List.nodup_append]
        refine ⟨he3, by simp, ?_⟩
        intro n hn m hm
        simp only [List.mem_singleton] at hm
        subst hm
        obtain ⟨e, h1, rfl⟩ := List.mem_map.1 hn
        have := he4 e (by simpa using h1)
        omega
      · intro e he
        rw [Array.mem_push] at he
        rcases he with he | rfl
        · have := he4 e he
          omega
        · simp

theorem map_eraseIdx {α β : Type} (f : α → β) : ∀ (l : List α) (j : Nat), (l.eraseIdx j).map f = (l.map f).eraseIdx j
  | [], _ => rfl
  | _ :: _, 0 => rfl
  | x :: l, j + 1 => by simp [map_eraseIdx f l j]
theorem delete_sound {t kt et tk : TypeId} (ht : P.underlying t = some (.map kt et)) {kp : KP} (hk : keyPlan P kt = some kp)
    {I : Imm} {st : Store} {w : World} (hs : SRep I st w) {q : PV} {x : Value} (hq : vrep I q x) {kv : Value} (h2 : q.key? = some kv) {b : Nat} {ks : List Value} {vs : List PV} (hb : sget st b = some (.map ks vs))
    (hf : keyFits kp kv = true) {r : Option Nat} (h3 : kidx kp kv ks = some r) (ty : TypeId) :
    ∃ w', (Builtin.delete_ #[t, tk] ty #[.map (some b), x]).run P w = .ok (.tuple #[]) w' ∧ Calm w w' ∧ SRep I (match r with | some j => sset st b (.map (ks.eraseIdx j) (vs.eraseIdx j)) | none => st) w' := by
  obtain ⟨hI, ro, hro, es, clock, rfl, he1, he2, he3, he4⟩ := hs.objs b _ hb
  obtain rfl := key?_spec hq h2
  obtain ⟨us, hus, hul⟩ := keyFits_spec hf
  have hck := checkKey_run hk hul es.isEmpty w
  rw [← hus] at hck
  have hfk := findKey_run (w := w) hk (es := es.toList) (by rw [he1]; exact h3)
  cases r with
  | some j =>
    have hj := kidx_lt h3
    have hel : j < es.size := by rw [← he1] at hj; simpa using hj
    have hfound : found es.toList 0 (some j) = some (j, ((es[j]?).map (·.val)).getD undef) := by simp [found]
    rw [hfound] at hfk
    refine ⟨{ w with heap := w.heap.setIfInBounds b (.map (es.eraseIdxIfInBounds j) clock) }, ?_, ⟨rfl, rfl, rfl, by simp⟩, hs.setMap hb ?_⟩
    · simp [Builtin.delete_, run_underlying ht, getMap_run hro, hck, hfk, setMap_run hro]
    · have e : (es.eraseIdxIfInBounds j).toList = es.toList.eraseIdx j := by simp [Array.eraseIdxIfInBounds, hel]
      refine ⟨_, clock, rfl, ?_, ?_, ?_, ?_⟩
      · rw [e, map_eraseIdx, he1]
      · rw [e, map_eraseIdx]; exact vreps_erase j he2
      · rw [e, map_eraseIdx]; exact List.Nodup.sublist (List.eraseIdx_sublist _ _) he3
      · intro e' he'
        rw [← Array.mem_toList_iff, e] at he'
        exact he4 e' (by rw [← Array.mem_toList_iff]; exact List.mem_of_mem_eraseIdx he')
  | none =>
    have hfound : found es.toList 0 none = none := rfl
    rw [hfound] at hfk
    refine ⟨{ w with heap := w.heap.setIfInBounds b (.map es clock) }, ?_, ⟨rfl, rfl, rfl, by simp⟩, ?_⟩
    · simp [Builtin.delete_, run_underlying ht, getMap_run hro, hck, hfk, setMap_run hro]
    · have : { w with heap := w.heap.setIfInBounds b (.map es clock) } = w := by
        have hlt := (Array.getElem?_eq_some_iff.1 hro).1
        have : w.heap.setIfInBounds b (.map es clock) = w.heap := by
          apply Array.ext_getElem?
          intro c
          rw [Array.getElem?_setIfInBounds]
          split
          · rename_i hc; subst hc; exact hro.symm
          · rfl
        rw [this]
      rw [this]
      exact hs
end Go.Pv
/- The compact code is met by the model's own: ranges over maps, clear. -/
namespace Go.Pv
open Go.ChangeMaps (setBlock)
variable {P : Program}
theorem SRep.setBlock {I : Imm} {st : Store} {w : World} (hs : SRep I st w) {l : Nat} {o o' : PObj} {r' : Obj} (hb : sget st l = some o) (hr : orep I o' r') : SRep I (sset st l o') (setBlock w l r') ∧ Calm w (setBlock w l r') :=
  ⟨hs.put hb hr (by simp [ChangeMaps.setBlock]) (by simp [ChangeMaps.setBlock, hs.obj_lt hb]) (fun c hc => by simp [ChangeMaps.setBlock, Array.getElem?_setIfInBounds_ne (Ne.symm hc)]), ⟨rfl, rfl, rfl, by simp [ChangeMaps.setBlock]⟩⟩
theorem range_sound {t kt et : TypeId} (ht : P.underlying t = some (.map kt et)) {I : Imm} {st : Store} {w : World} (hs : SRep I st w) {p : PV} {x : Value} (hp : vrep I p x) {K : PV → Store → Prop} (hk : rangeK p st K) :
    Comes I w K ((Instr.range t x).run P w) := by
  unfold rangeK at hk
  split at hk
  · rename_i m
    simp only [vrep] at hp
    subst hp
    split at hk
    · rename_i ks vs hm
      obtain ⟨hI, r, hw, es, clock, rfl, h1, h2, h3, h4⟩ := hs.objs _ _ hm
      have hlen : (es.toList.map (·.born)).length = ks.length := by rw [← h1]; simp
      have hK := hk (es.toList.map (·.born)) clock w.heap.size hlen h3 (fun b hb => by
        obtain ⟨e, he, rfl⟩ := List.mem_map.1 hb
        exact h4 e (by simpa using he)) (snew_of hs.keys)
      have hgo : (getObj m).run P w = .ok (.map es clock) w := by simp [getObj, Sem.run, hw]
      have hrun : (Instr.range t (.map (some m))).run P w = .ok (.pointer (some ⟨w.heap.size, 0, none⟩)) (w.alloc (.mapIter (some m) clock #[] clock)) := by
        simp only [Instr.range, Sem.run_bind, run_underlying ht, hgo, Result.andThen_ok, Sem.run_pure, run_newObj]
        rfl
      rw [hrun]
      have hs1 : SRep I (sset st m (.mapB ks vs (es.toList.map (·.born)) clock)) w := hs.put hm (r' := .map es clock) ⟨es, rfl, h1, h2, rfl⟩ rfl hw (fun _ _ => rfl)
      have hs2 := hs1.alloc (o := .iter m (es.toList.map (·.born)) clock []) (r := .mapIter (some m) clock #[] clock) rfl
      exact ⟨_, _, rfl, I, _, I.le_refl, ⟨rfl, rfl, rfl, by simp⟩, hs2, _, vrep_val, hK⟩
    · exact hk.elim
  · exact hk.elim
theorem iter_seen {es : Array MapEntry} {vis : List Nat} (hv : ∀ j ∈ vis, j < es.size) (hn : (es.toList.map (·.born)).Nodup) {j : Nat} (hj : j < es.size) :
    (vis.map fun j => (es.toList.map (·.born)).getD j 0).toArray.contains es[j].born = vis.contains j := by
  have hb : ∀ i, i < es.size → (es.toList.map (·.born)).getD i 0 = if h : i < es.size then es[i].born else 0 := by
    intro i hi
    rw [dif_pos hi]
    simp [hi]
  rw [Bool.eq_iff_iff, Array.contains_iff_mem, List.mem_toArray, List.mem_map, List.contains_iff_mem]
  constructor
  · rintro ⟨i, hi, e⟩
    have hil := hv i hi
    rw [hb i hil, dif_pos hil] at e
    have : i = j := by
      have := (List.getElem_inj (i := i) (j := j) (xs := es.toList.map (·.born)) (h₀ := by simpa using hil) (h₁ := by simpa using hj) hn).1 (by simpa using e)
      exact this
    subst this
    exact hi
  · intro hi
    exact ⟨j, hi, by rw [hb j hj, dif_pos hj]⟩
theorem next_sound {I : Imm} {st : Store} {w : World} (hs : SRep I st w) {p : PV} {x : Value} (hp : vrep I p x) {K : PV → Store → Prop} (hk : nextK p st K) (ty : TypeId) :
    Comes I w K ((Instr.next x false ty).run P w) := by
  unfold nextK at hk
  split at hk
  · rename_i r
    simp only [vrep] at hp
    subst hp
    split at hk
    · rename_i m bs clock vis hr
      split at hk
      · rename_i ks vs bs' clock' hm
        obtain ⟨rfl, rfl, hl1, hl2, hn, hlt, hvis, hover, hnext⟩ := hk
        obtain ⟨-, ro, hwr, hro⟩ := hs.objs _ _ hr
        obtain ⟨-, mo, hwm, es, rfl, h1, h2, h3⟩ := hs.objs _ _ hm
        have hro : ro = .mapIter (some m) clock' (vis.map fun j => bs'.getD j 0).toArray clock' := hro
        subst hro
        subst h3
        have hsz : es.size = ks.length := by rw [← h1]; simp
        have hvs : ∀ j ∈ vis, j < es.size := fun j hj => by rw [hsz]; exact hvis j hj
        have hold : ∀ e ∈ es.toList, e.born < clock' := fun e he => hlt _ (List.mem_map.2 ⟨e, he, rfl⟩)
        rcases run_next_at (P := P) w ty r m clock' clock' _ es clock' hwr hwm hold (Nat.le_refl _) with ⟨h0, hrun⟩ | ⟨e, he, w1, hw1, hrun⟩
        · rw [hrun]
          refine ⟨_, _, rfl, I, st, I.le_refl, Calm.refl w, hs, .tuple [.bool false], ?_, hover fun j hj => ?_⟩
          · simp only [vrep]; exact ⟨[.bool false], rfl, by simp [vreps, vrep]⟩
          · have hj' : j < es.size := by omega
            by_cases hjv : j ∈ vis
            · exact hjv
            · exfalso
              have hmem : es[j] ∈ leftOf es (vis.map fun j => (es.toList.map (·.born)).getD j 0).toArray := by
                unfold leftOf
                rw [Array.mem_filter]
                refine ⟨Array.getElem_mem hj', ?_⟩
                rw [iter_seen hvs hn hj']
                simpa using hjv
              rw [Array.eq_empty_of_size_eq_zero h0] at hmem
              simp at hmem
        · rw [hrun]
          have he' : e ∈ leftOf es (vis.map fun j => (es.toList.map (·.born)).getD j 0).toArray := by simpa using he
          unfold leftOf at he'
          rw [Array.mem_filter] at he'
          obtain ⟨hee, hns⟩ := he'
          obtain ⟨j, hj, rfl⟩ := Array.mem_iff_getElem.1 hee
          rw [iter_seen hvs hn hj] at hns
          have hjv : j ∉ vis := by simpa using hns
          have hkj : ks[j]? = some es[j].key := by rw [← h1]; simp [hj]
          obtain ⟨v, hv, hvr⟩ : ∃ q, vs[j]? = some q ∧ vrep I q es[j].val := by
            have hvj : j < vs.length := by omega
            refine ⟨vs[j], by simp [hvj], ?_⟩
            obtain ⟨u, hu, hr'⟩ := vreps_get h2 (j := j) (p := vs[j]) (by simp [hvj])
            have : u = es[j].val := by simpa [hj] using hu.symm
            rw [← this]; exact hr'
          have hK := hnext j es[j].key v hkj hv hjv
          have hs1 : SRep I st w1 := by rcases hw1 with rfl | rfl; (· exact hs); exact hs.drew
          have hc1 : Calm w w1 := by rcases hw1 with rfl | rfl <;> exact ⟨rfl, rfl, rfl, Nat.le_refl _⟩
          have hor : orep I (.iter m (es.toList.map (·.born)) clock' (vis ++ [j])) (.mapIter (some m) clock' ((vis.map fun j => (es.toList.map (·.born)).getD j 0).toArray.push es[j].born) clock') := by
            show _ = _
            rw [List.map_append]
            congr 1
            apply Array.ext'
            simp [hj]
          obtain ⟨g1, g2⟩ := hs1.setBlock hr hor
          refine ⟨_, _, rfl, I, _, I.le_refl, hc1.trans g2, g1, _, ?_, hK⟩
          simp only [vrep]
          exact ⟨[.bool true, es[j].key, es[j].val], rfl, by simp only [vreps, vrep]; exact ⟨trivial, trivial, hvr, trivial⟩⟩
      · exact hk.elim
    · exact hk.elim
  · exact hk.elim
theorem entry_sound {I : Imm} {st : Store} {w : World} (hs : SRep I st w) {p : PV} {x : Value} (hp : vrep I p x) {K : PV → Store → Prop} (hk : entryK p st K) :
    Comes I w K ((Instr.entry x).run P w) := by
  unfold entryK at hk
  split at hk
  · rename_i r
    simp only [vrep] at hp
    subst hp
    split at hk
    · rename_i m bs clock vis hr
      split at hk
      · rename_i ks vs bs' clock' hm
        obtain ⟨rfl, rfl, hl1, hl2, hn, vis', j, k, v, rfl, hkj, hvj, hK⟩ := hk
        obtain ⟨-, ro, hwr, hro⟩ := hs.objs _ _ hr
        obtain ⟨-, mo, hwm, es, rfl, h1, h2, h3⟩ := hs.objs _ _ hm
        have hro : ro = .mapIter (some m) clock' ((vis' ++ [j]).map fun j => bs'.getD j 0).toArray clock' := hro
        subst hro
        subst h3
        have hj : j < es.size := by
          have := (List.getElem?_eq_some_iff.1 hkj).1
          rw [← h1] at this
          simpa using this
        have e1 : ((vis' ++ [j]).map fun j => (es.toList.map (·.born)).getD j 0).toArray = (vis'.map fun j => (es.toList.map (·.born)).getD j 0).toArray.push es[j].born := by
          apply Array.ext'
          simp [hj]
        rw [e1] at hwr
        have hrun := run_entry_at (P := P) w r m clock' _ es clock' es[j] hwr hwm (by simp) hn
        rw [hrun]
        have e2 : k = es[j].key := by rw [← h1] at hkj; simpa [hj] using hkj.symm
        obtain ⟨u, hu, hr'⟩ := vreps_get h2 hvj
        have : u = es[j].val := by simpa [hj] using hu.symm
        subst this
        subst e2
        refine ⟨_, _, rfl, I, st, I.le_refl, Calm.refl w, hs, _, ?_, hK⟩
        simp only [vrep]
        exact ⟨[es[j].key, es[j].val], rfl, by simp only [vreps, vrep]; exact ⟨trivial, hr', trivial⟩⟩
      · exact hk.elim
    · exact hk.elim
  · exact hk.elim
theorem clear_sound {t e : TypeId} {zs : List PV} (ht : P.underlying t = some (.slice e)) (hz : zcells P e = some zs) {I : Imm} {st : Store} {w : World} (hs : SRep I st w) {p : PV} {x : Value} (hp : vrep I p x) {K : PV → Store → Prop}
    (hk : clearK zs.length zs p st K) (ty : TypeId) : ∃ w' st', (Builtin.clear_ #[t] ty #[x]).run P w = .ok (.tuple #[]) w' ∧ Calm w w' ∧ SRep I st' w' ∧ K .any st' := by
  obtain ⟨i, z, hi, hiz, hsz, h1, hzs, hzc⟩ := zcells_spec hz
  unfold clearK at hk
  split at hk
  · simp only [vrep] at hp
    subst hp
    exact ⟨w, st, by simp [Builtin.clear_, run_underlying ht], Calm.refl w, hs, hk⟩
  · simp only [vrep] at hp
    obtain ⟨a, cap, vs, rfl, -⟩ := hp
    refine ⟨w, st, ?_, Calm.refl w, hs, hk⟩
    cases a <;> simp [Builtin.clear_, run_underlying ht]
  · rename_i b off n cap
    simp only [vrep] at hp
    subst hp
    split at hk
    · rename_i T row hb
      obtain ⟨hlen, hK⟩ := hk
      obtain ⟨hI, r, hw, vs, rfl, hcv⟩ := hs.objs b _ hb
      by_cases hn : n = 0
      · subst hn
        simp only [List.replicate_zero, List.flatten_nil, setCells] at hK
        refine ⟨w, _, by simp [Builtin.clear_, run_underlying ht], Calm.refl w, hs.put hb (o' := .arr T row) (r' := .cells vs.toArray T (0, 0)) ⟨vs, rfl, hcv⟩ rfl hw (fun _ _ => rfl), hK⟩
      · have hzl : zs.length = z.cells.size := by rw [hzs]; simp
        have hus : (Builtin.zeroCells z.cells n).toList = (List.replicate n z.cells.toList).flatten := madeCells_eq z.cells n
        have hul : ((List.replicate n z.cells.toList).flatten).length = n * z.cells.size := by simp
        obtain ⟨w', g1, g2, g3, g4, g5⟩ := storeCells_run (P := P) (b := b) (T := T) (List.replicate n z.cells.toList).flatten 0 off vs w hw (by rw [hul, ← hzl, ← vcells_length hcv]; omega) (fun u hu => by
          simp only [List.mem_flatten, List.mem_replicate] at hu
          obtain ⟨l, ⟨-, rfl⟩, hu⟩ := hu
          exact List.all_eq_true.1 h1 u hu)
        refine ⟨w', _, ?_, g2, hs.put hb (o' := .arr T (setCells row off (List.replicate n zs).flatten)) ⟨_, rfl, ?_⟩ g3 g4 g5, hK⟩
        · have hnz : (Builtin.clear_ #[t] ty #[.slice (some ⟨b, off, none⟩) n cap]).run P w = (do storeCells ⟨b, off, none⟩ (Builtin.zeroCells z.cells n).toList; pure (Value.tuple #[]) : Sem Value).run P w := by
            obtain ⟨n, rfl⟩ : ∃ m, n = m + 1 := ⟨n - 1, by omega⟩
            simp [Builtin.clear_, run_underlying ht, run_zeroValue' hi hiz]
          rw [hnz, hus]
          simp only [Sem.run_bind, g1, Result.andThen_ok, Sem.run_pure]
        · rw [Nat.add_zero]
          exact vcells_setCells off (vcells_flat (hzc I) n) hcv
    · exact hk.elim
  · exact hk.elim
end Go.Pv
