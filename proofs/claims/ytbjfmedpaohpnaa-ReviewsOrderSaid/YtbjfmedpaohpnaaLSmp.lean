/- The compact code is met by the model's own: maps that are written. -/
import Derived.Test.YtbjfmedpaohpnaaLSm
namespace Go.Pv
variable {P : Program}

theorem kidx_sound {kp : KP} {kv : Value} : ∀ {ks : List Value} {j : Nat}, kidx kp kv ks = some (some j) → ks[j]? = some kv
  | [], j, h => by simp [kidx] at h
  | k :: ks, j, h => by
    simp only [kidx] at h
    split at h
    · rename_i hb
      simp only [Option.some.injEq] at h
      subst h
      obtain ⟨us, vs, rfl, rfl, h3, -⟩ := keyCells_spec hb
      rw [leafEqs_true h3]
      rfl
    · simp only [Option.map_eq_some_iff] at h
      obtain ⟨r, hr, h⟩ := h
      cases r with
      | none => simp at h
      | some j' =>
        simp only [Option.map_eq_some_iff, Option.some.injEq] at h
        obtain ⟨_, rfl, rfl⟩ := h
        simpa using kidx_sound hr
    · cases h
theorem kidx_leafs {kp : KP} {kv : Value} : ∀ {ks : List Value} {j : Nat}, kidx kp kv ks = some (some j) → ∃ us, kv = mkV kp.1 us ∧ leafEqs kp.2 us us = some true
  | [], j, h => by simp [kidx] at h
  | k :: ks, j, h => by
    simp only [kidx] at h
    split at h
    · rename_i hb
      obtain ⟨us, vs, rfl, rfl, h3, -⟩ := keyCells_spec hb
      obtain rfl := leafEqs_true h3
      exact ⟨us, rfl, h3⟩
    · simp only [Option.map_eq_some_iff] at h
      obtain ⟨r, hr, h⟩ := h
      cases r with
      | none => simp at h
      | some j' => exact kidx_leafs hr
    · cases h
theorem sameBits_key {kp : KP} {kv : Value} {ks : List Value} {j : Nat} (hf : keyFits kp kv = true) (h : kidx kp kv ks = some (some j)) : Instr.sameBits 10000 kv kv = true := by
  obtain ⟨us, rfl, h2⟩ := kidx_leafs h
  obtain ⟨a, lk⟩ := kp
  cases a with
  | true =>
    simp only [mkV, if_true]
    show Instr.sameBits (9999 + 1) _ _ = true
    simp only [Instr.sameBits, beq_self_eq_true, Bool.true_and]
    have := sameBits_leafs (n := 9999) h2
    simpa using this
  | false =>
    simp only [mkV, Bool.false_eq_true, if_false]
    cases us with
    | nil =>
      cases lk with
      | nil => simp [keyFits] at hf
      | cons => simp [leafEqs] at h2
    | cons u us =>
      cases lk with
      | nil => simp [leafEqs] at h2
      | cons l lk =>
        simp only [leafEqs] at h2
        split at h2
        · rename_i a b ha hb
          exact sameBits_leaf ha _
        · cases h2

theorem vreps_set {I : Imm} {p : PV} {v : Value} (hp : vrep I p v) : ∀ {ps : List PV} {vs : List Value} (j : Nat), vreps I ps vs → vreps I (ps.set j p) (vs.set j v)
  | [], [], k, _ => by simp [vreps]
  | [], _ :: _, _, h => by simp [vreps] at h
  | _ :: _, [], _, h => by simp [vreps] at h
  | _ :: _, _ :: _, 0, h => by simp only [vreps] at h; simp only [List.set_cons_zero, vreps]; exact ⟨hp, h.2⟩
  | _ :: _, _ :: _, k + 1, h => by simp only [vreps] at h; simp only [List.set_cons_succ, vreps]; exact ⟨h.1, vreps_set hp k h.2⟩
theorem vreps_erase {I : Imm} : ∀ {ps : List PV} {vs : List Value} (j : Nat), vreps I ps vs → vreps I (ps.eraseIdx j) (vs.eraseIdx j)
  | [], [], k, _ => by simp [vreps]
  | [], _ :: _, _, h => by simp [vreps] at h
  | _ :: _, [], _, h => by simp [vreps] at h
  | _ :: _, _ :: _, 0, h => by simp only [vreps] at h; simpa using h.2
  | _ :: _, _ :: _, k + 1, h => by simp only [vreps] at h; simp only [List.eraseIdx_cons_succ, vreps]; exact ⟨h.1, vreps_erase k h.2⟩

theorem setMap_run {r : Nat} {es : Array MapEntry} {clock : Nat} {w : World} (h : w.heap[r]? = some (.map es clock)) (o : Obj) : (setObj r o).run P w = .ok () { w with heap := w.heap.setIfInBounds r o } := by
  simp [setObj, Sem.run, h]
theorem SRep.setMap {I : Imm} {st : Store} {w : World} (hs : SRep I st w) {b : Nat} {o o' : PObj} {r' : Obj} (hb : sget st b = some o) (hr : orep I o' r') :
    SRep I (sset st b o') { w with heap := w.heap.setIfInBounds b r' } := by
  have hlt := hs.obj_lt hb
  refine hs.put hb hr (by simp) ?_ ?_
  · simp [hlt]
  · intro c hc
    simp [Array.getElem?_setIfInBounds, show ¬ b = c from fun e => hc e.symm]

theorem mapSet_sound {t kt et : TypeId} (ht : P.underlying t = some (.map kt et)) {kp : KP} (hk : keyPlan P kt = some kp)
    {I : Imm} {st : Store} {w : World} (hs : SRep I st w) {q p : PV} {x v : Value} (hq : vrep I q x) (hp : vrep I p v) {kv : Value} (h2 : q.key? = some kv) {b : Nat} {ks : List Value} {vs : List PV} (hb : sget st b = some (.map ks vs))
    (hf : keyFits kp kv = true) {r : Option Nat} (h3 : kidx kp kv ks = some r) :
    ∃ w', (Instr.mapUpdate t (.map (some b)) x v).run P w = .ok () w' ∧ Calm w w' ∧ SRep I (sset st b (match r with | some j => .map (ks.set j kv) (vs.set j p) | none => .map (ks ++ [kv]) (vs ++ [p]))) w' := by
  obtain ⟨hI, ro, hro, es, clock, rfl, he1, he2, he3, he4⟩ := hs.objs b _ hb
  obtain rfl := key?_spec hq h2
  obtain ⟨us, hus, hul⟩ := keyFits_spec hf
  have hck := checkKey_run hk hul false w
  rw [← hus] at hck
  have hfk := findKey_run (w := w) hk (es := es.toList) (by rw [he1]; exact h3)
  cases r with
  | some j =>
    have hj := kidx_lt h3
    have hjs := kidx_sound h3
    have hel : j < es.size := by rw [← he1] at hj; simpa using hj
    have hkey : ((es[j]?).map (·.key)).getD x = x := by
      rw [← he1, List.getElem?_map] at hjs
      simp only [Array.getElem?_toList] at hjs
      rw [hjs]; rfl
    have hfound : found es.toList 0 (some j) = some (j, ((es[j]?).map (·.val)).getD undef) := by simp [found]
    rw [hfound] at hfk
    have hstay : (Instr.keyThatStays x x).run P w = .ok x w := by simp [Instr.keyThatStays, sameBits_key hf h3]
    refine ⟨{ w with heap := w.heap.setIfInBounds b (.map (es.modify j fun e => { e with key := x, val := v }) clock) }, ?_, ⟨rfl, rfl, rfl, by simp⟩, hs.setMap hb ?_⟩
    · simp [Instr.mapUpdate, run_underlying ht, getMap_run hro, hck, hfk, hkey, hstay, setMap_run hro]
    · refine ⟨_, clock, rfl, ?_, ?_, ?_, ?_⟩
      · apply List.ext_getElem?
        intro n
        rw [← he1]
        simp only [Array.toList_modify, List.getElem?_map, List.getElem?_modify, List.getElem?_set, List.length_map, Array.length_toList]
        by_cases hn : j = n
        · subst hn
          simp [hel]
        · simp [hn]
      · have : (es.modify j fun e => { e with key := x, val := v }).toList.map (·.val) = (es.toList.map (·.val)).set j v := by
          apply List.ext_getElem?
          intro n
          simp only [Array.toList_modify, List.getElem?_map, List.getElem?_modify, List.getElem?_set, List.length_map, Array.length_toList]
          by_cases hn : j = n
          · subst hn
            simp [hel]
          · simp [hn]
        rw [this]
        exact vreps_set hp j he2
      · have : (es.modify j fun e => { e with key := x, val := v }).toList.map (·.born) = es.toList.map (·.born) := by
          apply List.ext_getElem?
          intro n
          simp only [Array.toList_modify, List.getElem?_map, List.getElem?_modify]
          by_cases hn : j = n
          · subst hn
            simp [hel]
          · simp [hn]
        rw [this]
        exact he3
      · intro e he
        obtain ⟨n, hn⟩ := Array.getElem?_of_mem he
        rw [Array.getElem?_modify] at hn
        cases hen : es[n]? with
        | none => simp [hen] at hn
        | some e0 =>
          have h0 := he4 e0 (Array.mem_of_getElem? hen)
          rw [hen] at hn
          split at hn
          · simp only [Option.map_some, Option.some.injEq] at hn
            rw [← hn]; exact h0
          · simp only [Option.some.injEq] at hn
            rw [← hn]; exact h0
  | none =>
    have hfound : found es.toList 0 none = none := rfl
    rw [hfound] at hfk
    refine ⟨{ w with heap := w.heap.setIfInBounds b (.map (es.push { key := x, val := v, born := clock }) (clock + 1)) }, ?_, ⟨rfl, rfl, rfl, by simp⟩, hs.setMap hb ?_⟩
    · simp [Instr.mapUpdate, run_underlying ht, getMap_run hro, hck, hfk, setMap_run hro]
    · refine ⟨_, clock + 1, rfl, ?_, ?_, ?_, ?_⟩
      · simp [he1]
      · simp only [Array.toList_push, List.map_append, List.map_cons, List.map_nil]
        exact vreps_append he2 (by simp [vreps, hp])
      · simp only [Array.toList_push, List.map_append, List.map_cons, List.map_nil]
        rw [List.nodup_append]
        refine ⟨he3, by simp, ?_⟩
        intro n hn m hm
        simp only [List.mem_singleton] at hm
        subst hm
        obtain ⟨e, h1, rfl⟩ := List.mem_map.1 hn
        have := he4 e (by simpa using h1)
        omega
      · intro e he
        rw [Array.mem_push] at he
        rcases he with he | rfl
        · have := he4 e he
          omega
        · simp

theorem map_eraseIdx {α β : Type} (f : α → β) : ∀ (l : List α) (j : Nat), (l.eraseIdx j).map f = (l.map f).eraseIdx j
  | [], _ => rfl
  | _ :: _, 0 => rfl
  | x :: l, j + 1 => by simp [map_eraseIdx f l j]
theorem delete_sound {t kt et tk : TypeId} (ht : P.underlying t = some (.map kt et)) {kp : KP} (hk : keyPlan P kt = some kp)
    {I : Imm} {st : Store} {w : World} (hs : SRep I st w) {q : PV} {x : Value} (hq : vrep I q x) {kv : Value} (h2 : q.key? = some kv) {b : Nat} {ks : List Value} {vs : List PV} (hb : sget st b = some (.map ks vs))
    (hf : keyFits kp kv = true) {r : Option Nat} (h3 : kidx kp kv ks = some r) (ty : TypeId) :
    ∃ w', (Builtin.delete_ #[t, tk] ty #[.map (some b), x]).run P w = .ok (.tuple #[]) w' ∧ Calm w w' ∧ SRep I (match r with | some j => sset st b (.map (ks.eraseIdx j) (vs.eraseIdx j)) | none => st) w' := by
  obtain ⟨hI, ro, hro, es, clock, rfl, he1, he2, he3, he4⟩ := hs.objs b _ hb
  obtain rfl := key?_spec hq h2
  obtain ⟨us, hus, hul⟩ := keyFits_spec hf
  have hck := checkKey_run hk hul es.isEmpty w
  rw [← hus] at hck
  have hfk := findKey_run (w := w) hk (es := es.toList) (by rw [he1]; exact h3)
  cases r with
  | some j =>
    have hj := kidx_lt h3
    have hel : j < es.size := by rw [← he1] at hj; simpa using hj
    have hfound : found es.toList 0 (some j) = some (j, ((es[j]?).map (·.val)).getD undef) := by simp [found]
    rw [hfound] at hfk
    refine ⟨{ w with heap := w.heap.setIfInBounds b (.map (es.eraseIdxIfInBounds j) clock) }, ?_, ⟨rfl, rfl, rfl, by simp⟩, hs.setMap hb ?_⟩
    · simp [Builtin.delete_, run_underlying ht, getMap_run hro, hck, hfk, setMap_run hro]
    · have e : (es.eraseIdxIfInBounds j).toList = es.toList.eraseIdx j := by simp [Array.eraseIdxIfInBounds, hel]
      refine ⟨_, clock, rfl, ?_, ?_, ?_, ?_⟩
      · rw [e, map_eraseIdx, he1]
      · rw [e, map_eraseIdx]; exact vreps_erase j he2
      · rw [e, map_eraseIdx]; exact List.Nodup.sublist (List.eraseIdx_sublist _ _) he3
      · intro e' he'
        rw [← Array.mem_toList_iff, e] at he'
        exact he4 e' (by rw [← Array.mem_toList_iff]; exact List.mem_of_mem_eraseIdx he')
  | none =>
    have hfound : found es.toList 0 none = none := rfl
    rw [hfound] at hfk
    refine ⟨{ w with heap := w.heap.setIfInBounds b (.map es clock) }, ?_, ⟨rfl, rfl, rfl, by simp⟩, ?_⟩
    · simp [Builtin.delete_, run_underlying ht, getMap_run hro, hck, hfk, setMap_run hro]
    · have : { w with heap := w.heap.setIfInBounds b (.map es clock) } = w := by
        have hlt := (Array.getElem?_eq_some_iff.1 hro).1
        have : w.heap.setIfInBounds b (.map es clock) = w.heap := by
          apply Array.ext_getElem?
          intro c
          rw [Array.getElem?_setIfInBounds]
          split
          · rename_i hc; subst hc; exact hro.symm
          · rfl
        rw [this]
      rw [this]
      exact hs
end Go.Pv
