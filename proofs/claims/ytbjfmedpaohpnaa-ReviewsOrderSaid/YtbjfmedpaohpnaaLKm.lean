/- Maps by what they hold: keys of a type told apart, values that are read as pure values. -/
import Derived.Test.YtbjfmedpaohpnaaLRa
namespace Go.Pv
/-- Its keys are told apart. -/
def KM.wf {κ α : Type} (m : List (κ × α)) : Prop := (m.map (·.1)).Nodup
theorem KM.wf_nil {κ α : Type} : KM.wf ([] : List (κ × α)) := List.nodup_nil
/-- How a type of keys is laid. -/
structure KeyOf (κ : Type) [DecidableEq κ] where
  kv : κ → Value
  kp : KP
  ok : ∀ x y, eqCells kp.2 (keyCells kp.1 (kv x)) (keyCells kp.1 (kv y)) = some (decide (x = y))
abbrev KM (κ α : Type) := List (κ × α)
section
variable {κ α : Type} [DecidableEq κ] (K : KeyOf κ) (pv : α → PV) (m : KM κ α)
def KM.ks : List Value := (m.map (·.1)).map K.kv
def KM.vs : List PV := (m.map (·.2)).map pv
def KM.obj : PObj := .map (m.ks K) (m.vs pv)
def KM.at? (s : κ) : Option Nat := (m.map (·.1)).findIdx? fun y => decide (s = y)
def KM.look (s : κ) : Option α := (m.at? s).bind fun j => (m[j]?).map (·.2)
def KM.put (s : κ) (y : α) : KM κ α := match m.at? s with | some j => m.set j (s, y) | none => m ++ [(s, y)]
def KM.del (s : κ) : KM κ α := match m.at? s with | some j => m.eraseIdx j | none => m
end
section
variable {κ α : Type} [DecidableEq κ] {K : KeyOf κ} {pv : α → PV} {m : KM κ α}
theorem KM.at_lt {s : κ} {j : Nat} (h : m.at? s = some j) : ∃ h : j < m.length, m[j].1 = s := by
  unfold KM.at? at h
  rw [List.findIdx?_eq_some_iff_getElem] at h
  obtain ⟨h1, h2, -⟩ := h
  simp only [List.length_map] at h1
  exact ⟨h1, by simpa using (of_decide_eq_true h2).symm⟩
theorem KM.at_none {s : κ} (h : m.at? s = none) : ∀ q ∈ m, q.1 ≠ s := by
  unfold KM.at? at h
  rw [List.findIdx?_eq_none_iff] at h
  intro q hq e
  have := h q.1 (List.mem_map.2 ⟨q, hq, rfl⟩)
  simp [e] at this
theorem KM.look_some {s : κ} {j : Nat} (h : m.at? s = some j) (hj : j < m.length) : m.look s = some m[j].2 := by
  simp [KM.look, h, hj]
theorem KM.look_none {s : κ} (h : m.at? s = none) : m.look s = none := by simp [KM.look, h]
theorem KM.look_isNone {s : κ} : m.look s = none ↔ m.at? s = none := by
  constructor
  · intro h
    cases ha : m.at? s with
    | none => rfl
    | some j => obtain ⟨hj, -⟩ := KM.at_lt ha; rw [KM.look_some ha hj] at h; cases h
  · exact KM.look_none
theorem KM.look_put (s s' : κ) (y : α) : (m.put s y).look s' = if s' = s then some y else m.look s' := by
  have set : ∀ (m : KM κ α) (j : Nat), (m.map (·.1))[j]? = some s → ((m.set j (s, y)).map (·.1)) = m.map (·.1) := by
    intro m j h
    rw [List.map_set]
    apply List.ext_getElem?
    intro k
    rw [List.getElem?_set]
    split
    · rename_i e; subst e
      split
      · exact h.symm
      · rename_i hlt; rw [List.getElem?_eq_none (by omega)] at h; cases h
    · rfl
  unfold KM.put
  cases ha : m.at? s with
  | some j =>
    obtain ⟨hj, hs⟩ := KM.at_lt ha
    have hk := set m j (by simp [hj, hs])
    have hat : ∀ q, KM.at? (m.set j (s, y)) q = m.at? q := fun q => by unfold KM.at?; rw [hk]
    simp only
    by_cases e : s' = s
    · subst e
      rw [if_pos rfl]
      simp [KM.look, hat, ha, hj]
    · rw [if_neg e]
      unfold KM.look
      rw [hat]
      cases hq : m.at? s' with
      | none => rfl
      | some q =>
        obtain ⟨hq1, hq2⟩ := KM.at_lt hq
        have hne : j ≠ q := by rintro rfl; exact e (hq2.symm.trans hs)
        simp [List.getElem?_set, hne]
  | none =>
    simp only
    have hat : ∀ q, KM.at? (m ++ [(s, y)]) q = (m.at? q).or (if q = s then some m.length else none) := fun q => by
      unfold KM.at?
      rw [List.map_append, List.findIdx?_append]
      simp [List.findIdx?_cons]
    by_cases e : s' = s
    · subst e
      simp [KM.look, hat, ha]
    · rw [if_neg e]
      unfold KM.look
      rw [hat]
      cases hq : m.at? s' with
      | none => simp [e]
      | some q =>
        obtain ⟨hq1, hq2⟩ := KM.at_lt hq
        simp [List.getElem?_append_left hq1]
theorem KM.keys_put {s : κ} {y : α} : (m.put s y).map (·.1) = match m.at? s with | some _ => m.map (·.1) | none => m.map (·.1) ++ [s] := by
  unfold KM.put
  cases ha : m.at? s with
  | some j =>
    obtain ⟨hj, hs⟩ := KM.at_lt ha
    simp only
    rw [List.map_set]
    apply List.ext_getElem?
    intro k
    rw [List.getElem?_set]
    split
    · rename_i e; subst e
      simp [hj, hs]
    · rfl
  | none => simp
theorem KM.wf.put (h : KM.wf m) (s : κ) (y : α) : KM.wf (m.put s y) := by
  unfold KM.wf at *
  rw [KM.keys_put]
  cases ha : m.at? s with
  | some j => exact h
  | none =>
    simp only
    rw [List.nodup_append]
    refine ⟨h, by simp, fun a hm b hb => ?_⟩
    simp at hb
    subst hb
    obtain ⟨q, hq, rfl⟩ := List.mem_map.1 hm
    exact KM.at_none ha q hq
theorem KM.length_put (s : κ) (y : α) : (m.put s y).length = if (m.look s).isSome then m.length else m.length + 1 := by
  unfold KM.put
  cases ha : m.at? s with
  | some j =>
    obtain ⟨hj, hs⟩ := KM.at_lt ha
    simp [KM.look_some ha hj]
  | none => simp [KM.look_none ha]
theorem KM.mem_look (h : KM.wf m) {s : κ} {y : α} : m.look s = some y ↔ (s, y) ∈ m := by
  constructor
  · intro hl
    cases ha : m.at? s with
    | none => rw [KM.look_none ha] at hl; cases hl
    | some j =>
      obtain ⟨hj, hs⟩ := KM.at_lt ha
      rw [KM.look_some ha hj] at hl
      have : m[j] = (s, y) := by
        cases hm : m[j] with
        | mk a b => rw [hm] at hs hl; simp at hs hl; rw [hs, hl]
      exact this ▸ List.getElem_mem hj
  · intro hm
    obtain ⟨k, hk, e⟩ := List.mem_iff_getElem.1 hm
    cases ha : m.at? s with
    | none => exact absurd (by rw [e] : (m[k]).1 = s) (KM.at_none ha _ (List.getElem_mem hk))
    | some j =>
      obtain ⟨hj, hs⟩ := KM.at_lt ha
      have hjk : j = k := by
        unfold KM.wf at h
        have := (List.getElem_inj (i := j) (j := k) (h₀ := by simpa using hj) (h₁ := by simpa using hk) h).1 (by simp [hs, e])
        exact this
      subst hjk
      rw [KM.look_some ha hj, e]
theorem KM.del_eq (h : KM.wf m) (s : κ) : m.del s = m.filter fun q => decide (q.1 ≠ s) := by
  unfold KM.del
  cases ha : m.at? s with
  | none =>
    simp only
    exact (List.filter_eq_self.2 fun q hq => by simpa using KM.at_none ha q hq).symm
  | some j =>
    simp only
    obtain ⟨hj, hs⟩ := KM.at_lt ha
    have key : ∀ (m : KM κ α) (j : Nat) (hj : j < m.length), KM.wf m → m[j].1 = s → m.eraseIdx j = m.filter fun q => decide (q.1 ≠ s) := by
      intro m
      induction m with
      | nil => intro j hj; simp at hj
      | cons q m ih =>
        intro j hj hw hs
        have hw' : q.1 ∉ m.map (·.1) ∧ KM.wf m := List.nodup_cons.1 hw
        cases j with
        | zero =>
          simp only [List.getElem_cons_zero] at hs
          rw [List.eraseIdx_zero, List.tail_cons, List.filter_cons, if_neg (by simp [hs])]
          refine (List.filter_eq_self.2 fun r hr => ?_).symm
          have : r.1 ≠ s := fun e => hw'.1 (by rw [hs, ← e]; exact List.mem_map.2 ⟨r, hr, rfl⟩)
          simpa using this
        | succ j =>
          simp only [List.getElem_cons_succ] at hs
          have hne : q.1 ≠ s := fun e => hw'.1 (by rw [e, ← hs]; exact List.mem_map.2 ⟨_, List.getElem_mem (by simpa using hj), rfl⟩)
          rw [List.eraseIdx_cons_succ, List.filter_cons, if_pos (by simpa using hne), ih j (by simpa using hj) hw'.2 hs]
    exact key m j hj h hs
theorem KM.wf.del (h : KM.wf m) (s : κ) : KM.wf (m.del s) := by
  rw [KM.del_eq h]
  unfold KM.wf
  exact List.Nodup.sublist (List.Sublist.map _ List.filter_sublist) h
theorem KM.look_del (h : KM.wf m) (s s' : κ) : (m.del s).look s' = if s' = s then none else m.look s' := by
  apply Option.ext
  intro y
  have hm := KM.mem_look (h.del s) (s := s') (y := y)
  rw [hm, KM.del_eq h, List.mem_filter]
  by_cases e : s' = s
  · simp [e]
  · have := KM.mem_look h (s := s') (y := y)
    simp [e, this]
theorem KM.map_obj : map? (some (m.obj K pv)) = some (m.ks K, m.vs pv) := rfl
theorem KM.idx (x : κ) : kidx K.kp (K.kv x) (m.ks K) = some (m.at? x) := kidx_enc _ _ K.ok x _
theorem KM.xlook_t (s : κ) (z : PV) (C : PV → Prop) : xlook (kidx K.kp (K.kv s) (m.ks K)) (m.vs pv) z true C = optK (m.look s) (fun y => C (.tuple [pv y, .bool true])) (C (.tuple [z, .bool false])) := by
  rw [KM.idx]
  cases h : m.at? s with
  | none => rw [KM.look_none h]; rfl
  | some j =>
    obtain ⟨hj, -⟩ := KM.at_lt h
    rw [KM.look_some h hj]
    simp [KM.vs, hj]
theorem KM.xlook_f (s : κ) (z : PV) (C : PV → Prop) : xlook (kidx K.kp (K.kv s) (m.ks K)) (m.vs pv) z false C = optK (m.look s) (fun y => C (pv y)) (C z) := by
  rw [KM.idx]
  cases h : m.at? s with
  | none => rw [KM.look_none h]; rfl
  | some j =>
    obtain ⟨hj, -⟩ := KM.at_lt h
    rw [KM.look_some h hj]
    simp [KM.vs, hj]
theorem KM.xput_eq (b : Nat) (s : κ) (y : α) (st : Store) (C : PV → Store → Prop) : xput b (K.kv s) (pv y) (m.ks K) (m.vs pv) (kidx K.kp (K.kv s) (m.ks K)) st C = C .any (sset st b ((m.put s y).obj K pv)) := by
  rw [KM.idx]
  cases h : m.at? s with
  | none => simp [KM.put, h, KM.obj, KM.ks, KM.vs]
  | some j => simp [KM.put, h, KM.obj, KM.ks, KM.vs, List.map_set]
theorem KM.xdel_eq (b : Nat) (s : κ) (st : Store) (hs : sset st b (m.obj K pv) = st) (C : PV → Store → Prop) : xdel b (m.ks K) (m.vs pv) (kidx K.kp (K.kv s) (m.ks K)) st C = C .any (sset st b ((m.del s).obj K pv)) := by
  rw [KM.idx]
  cases h : m.at? s with
  | none => simp [KM.del, h, hs]
  | some j =>
    have e : ∀ {β γ : Type} (f : β → γ) (l : List β) (j : Nat), (l.eraseIdx j).map f = (l.map f).eraseIdx j := by
      intro β γ f l
      induction l with
      | nil => intro j; simp
      | cons x l ih => intro j; cases j <;> simp [ih]
    simp [KM.del, h, KM.obj, KM.ks, KM.vs, e]
end
/-- How many entries a map has. -/
def maplen? (st : Store) : PV → Option Nat
  | .imap ks _ => some ks.length
  | .val (.map none) => some 0
  | .val (.map (some b)) => (map? (sget st b)).map fun r => r.1.length
  | _ => none
@[simp] theorem maplen?_own (st : Store) (b : Nat) : maplen? st (.val (.map (some b))) = (map? (sget st b)).map fun r => r.1.length := rfl
@[simp] theorem maplen?_imap (st : Store) (ks : List Value) (vs : List PV) : maplen? st (.imap ks vs) = some ks.length := rfl
@[simp] theorem maplen?_nil (st : Store) : maplen? st (.val (.map none)) = some 0 := rfl
@[simp ↓] theorem mval_maplen (ρ : MX → PV) (st : Store) (x : MX) (K : PV → Prop) : xval (.maplen x) ρ st K = onSome (maplen? st (ρ x)) fun n => K (.int n) := by
  simp only [xval, mval]
  cases hx : ρ x with
  | val v =>
    cases v with
    | map r =>
      cases r with
      | none => simp
      | some b =>
        simp only [maplen?_own]
        cases hg : sget st b with
        | none => simp [map?]
        | some o => cases o <;> simp [map?]
    | _ => simp [maplen?]
  | _ => simp [maplen?]
/-- Keys that are ints. -/
def intKey : KeyOf Int := ⟨.int .i64, (false, [.int]), fun x y => by simp [and2]⟩
section
variable {α : Type} (pv : α → PV) (m : KM Int α) (n : Int)
@[simp high] theorem KM.intObj : map? (some (m.obj intKey pv)) = some (m.ks intKey, m.vs pv) := rfl
@[simp] theorem KM.len_ks : (m.ks intKey).length = m.length := by simp [KM.ks]
@[simp] theorem KM.len_vs : (m.vs pv).length = m.length := by simp [KM.vs]
@[simp high] theorem KM.int_t (z : PV) (C : PV → Prop) : xlook (kidx (false, [.int]) (.int .i64 n) (m.ks intKey)) (m.vs pv) z true C = optK (m.look n) (fun y => C (.tuple [pv y, .bool true])) (C (.tuple [z, .bool false])) := KM.xlook_t (K := intKey) n z C
@[simp high] theorem KM.int_f (z : PV) (C : PV → Prop) : xlook (kidx (false, [.int]) (.int .i64 n) (m.ks intKey)) (m.vs pv) z false C = optK (m.look n) (fun y => C (pv y)) (C z) := KM.xlook_f (K := intKey) n z C
theorem KM.int_put (b : Nat) (y : α) (st : Store) (C : PV → Store → Prop) : xput b (.int .i64 n) (pv y) (m.ks intKey) (m.vs pv) (kidx (false, [.int]) (.int .i64 n) (m.ks intKey)) st C = C .any (sset st b ((m.put n y).obj intKey pv)) := KM.xput_eq (K := intKey) b n y st C
theorem KM.nil_obj : (KM.obj intKey pv ([] : KM Int α)) = .map [] [] := rfl
end
end Go.Pv
