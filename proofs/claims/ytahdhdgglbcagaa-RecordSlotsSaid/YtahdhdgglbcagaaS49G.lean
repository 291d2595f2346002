/- Standing, by a map from slots to events. -/
import Derived.Test.YtahdhdgglbcagaaS49F
namespace Go.Proofs.Ytahdhdgglbcagaa
open Go.Pv
set_option maxRecDepth 100000
set_option maxHeartbeats 4000000
structure Slot where
  kind : Int
  round : Int
  entry : Int
  judge : Int
  item : Int
  deriving DecidableEq, Inhabited
def Slot.enc (x : Slot) : List PV := [.int x.kind, .int x.round, .int x.entry, .int x.judge, .int x.item]
abbrev Slot.pv (x : Slot) : PV := .agg x.enc
@[simp] theorem Slot.len (x : Slot) : x.enc.length = 5 := rfl
@[simp] theorem Slot.subAll (x : Slot) : sub x.enc 0 5 = some x.enc := rfl
@[simp] theorem Slot.get0 (x : Slot) : x.enc[0]? = some (.int x.kind) := rfl
@[simp] theorem Slot.getE0 (x : Slot) (h : 0 < x.enc.length) : x.enc[0]'h = .int x.kind := rfl
@[simp] theorem Slot.set0 (x : Slot) (v : Int) : List.set x.enc 0 (.int v) = (Slot.mk v x.round x.entry x.judge x.item).enc := rfl
@[simp] theorem Slot.get1 (x : Slot) : x.enc[1]? = some (.int x.round) := rfl
@[simp] theorem Slot.getE1 (x : Slot) (h : 1 < x.enc.length) : x.enc[1]'h = .int x.round := rfl
@[simp] theorem Slot.set1 (x : Slot) (v : Int) : List.set x.enc 1 (.int v) = (Slot.mk x.kind v x.entry x.judge x.item).enc := rfl
@[simp] theorem Slot.get2 (x : Slot) : x.enc[2]? = some (.int x.entry) := rfl
@[simp] theorem Slot.getE2 (x : Slot) (h : 2 < x.enc.length) : x.enc[2]'h = .int x.entry := rfl
@[simp] theorem Slot.set2 (x : Slot) (v : Int) : List.set x.enc 2 (.int v) = (Slot.mk x.kind x.round v x.judge x.item).enc := rfl
@[simp] theorem Slot.get3 (x : Slot) : x.enc[3]? = some (.int x.judge) := rfl
@[simp] theorem Slot.getE3 (x : Slot) (h : 3 < x.enc.length) : x.enc[3]'h = .int x.judge := rfl
@[simp] theorem Slot.set3 (x : Slot) (v : Int) : List.set x.enc 3 (.int v) = (Slot.mk x.kind x.round x.entry v x.item).enc := rfl
@[simp] theorem Slot.get4 (x : Slot) : x.enc[4]? = some (.int x.item) := rfl
@[simp] theorem Slot.getE4 (x : Slot) (h : 4 < x.enc.length) : x.enc[4]'h = .int x.item := rfl
@[simp] theorem Slot.set4 (x : Slot) (v : Int) : List.set x.enc 4 (.int v) = (Slot.mk x.kind x.round x.entry x.judge v).enc := rfl
@[simp] theorem Slot.fz (b : Nat) (o : PObj) (k : Nat) (x : Slot) : fzps b o k x.enc = x.enc := rfl
theorem Slot.fold (v0 v1 v2 v3 v4 : Int) : [PV.int v0, PV.int v1, PV.int v2, PV.int v3, PV.int v4] = (Slot.mk v0 v1 v2 v3 v4).enc := rfl
@[simp] theorem Slot.fill (x y : Slot) : setCells x.enc 0 y.enc = y.enc := rfl
@[simp] theorem Slot.eq (x y : Slot) : eqCells [.int, .int, .int, .int, .int] x.enc y.enc = some (decide (x = y)) := by
  simp [Slot.enc]
  cases x; cases y; simp [Slot.mk.injEq]
@[simp] theorem Slot.key (x : Slot) : PV.vals? x.enc = some [.int .i64 x.kind, .int .i64 x.round, .int .i64 x.entry, .int .i64 x.judge, .int .i64 x.item] := rfl
def Slot.row (l : List Slot) : List PV := l.flatMap Slot.enc
abbrev Slot.lst (t : Bool) (l : List Slot) : PV := .list t (Slot.row l) l.length
@[simp] theorem Slot.row_len (l : List Slot) : (Slot.row l).length = l.length * 5 := flat_length Slot.enc 5 Slot.len l
@[simp] theorem Slot.row_nil : Slot.row [] = [] := rfl
@[simp] theorem Slot.row_cons (x : Slot) (l : List Slot) : Slot.row (x :: l) = x.enc ++ Slot.row l := rfl
theorem Slot.row_append (l m : List Slot) : Slot.row (l ++ m) = Slot.row l ++ Slot.row m := by simp [Slot.row]
@[simp] theorem Slot.row_eq_nil (l : List Slot) : Slot.row l = [] ↔ l = [] := by
  constructor
  · intro h
    have := congrArg List.length h
    rw [Slot.row_len] at this
    cases l with
    | nil => rfl
    | cons => simp at this
  · rintro rfl; rfl
@[simp] theorem Slot.row_sub (l : List Slot) (i : Nat) (h : i < l.length) : sub (Slot.row l) (i * 5) 5 = some (l[i]).enc := flat_sub Slot.enc 5 Slot.len l i h
theorem Slot.row_drop (l : List Slot) (i : Nat) : (Slot.row l).drop (i * 5) = Slot.row (l.drop i) := flat_drop Slot.enc 5 Slot.len l i
theorem Slot.row_take (l : List Slot) (i : Nat) : (Slot.row l).take (i * 5) = Slot.row (l.take i) := flat_take Slot.enc 5 Slot.len l i
@[simp] theorem Slot.row_getE0 (l : List Slot) (i : Nat) (h : i * 5 < (Slot.row l).length) : (Slot.row l)[i * 5]'h = .int (l[i]'(by rw [Slot.row_len] at h; omega)).kind := by
  have hl : i < l.length := by rw [Slot.row_len] at h; omega
  have := flat_get Slot.enc 5 Slot.len l i 0 hl (by omega)
  have h2 : (Slot.row l)[i * 5]? = some (.int l[i].kind) := this
  rw [List.getElem?_eq_getElem h] at h2
  exact Option.some.inj h2
@[simp] theorem Slot.row_get0 (l : List Slot) (i : Nat) (h : i < l.length) : (Slot.row l)[i * 5]? = some (.int l[i].kind) := flat_get Slot.enc 5 Slot.len l i 0 h (by omega)
@[simp] theorem Slot.row_getE1 (l : List Slot) (i : Nat) (h : i * 5 + 1 < (Slot.row l).length) : (Slot.row l)[i * 5 + 1]'h = .int (l[i]'(by rw [Slot.row_len] at h; omega)).round := by
  have hl : i < l.length := by rw [Slot.row_len] at h; omega
  have := flat_get Slot.enc 5 Slot.len l i 1 hl (by omega)
  have h2 : (Slot.row l)[i * 5 + 1]? = some (.int l[i].round) := this
  rw [List.getElem?_eq_getElem h] at h2
  exact Option.some.inj h2
@[simp] theorem Slot.row_get1 (l : List Slot) (i : Nat) (h : i < l.length) : (Slot.row l)[i * 5 + 1]? = some (.int l[i].round) := flat_get Slot.enc 5 Slot.len l i 1 h (by omega)
@[simp] theorem Slot.row_getE2 (l : List Slot) (i : Nat) (h : i * 5 + 2 < (Slot.row l).length) : (Slot.row l)[i * 5 + 2]'h = .int (l[i]'(by rw [Slot.row_len] at h; omega)).entry := by
  have hl : i < l.length := by rw [Slot.row_len] at h; omega
  have := flat_get Slot.enc 5 Slot.len l i 2 hl (by omega)
  have h2 : (Slot.row l)[i * 5 + 2]? = some (.int l[i].entry) := this
  rw [List.getElem?_eq_getElem h] at h2
  exact Option.some.inj h2
@[simp] theorem Slot.row_get2 (l : List Slot) (i : Nat) (h : i < l.length) : (Slot.row l)[i * 5 + 2]? = some (.int l[i].entry) := flat_get Slot.enc 5 Slot.len l i 2 h (by omega)
@[simp] theorem Slot.row_getE3 (l : List Slot) (i : Nat) (h : i * 5 + 3 < (Slot.row l).length) : (Slot.row l)[i * 5 + 3]'h = .int (l[i]'(by rw [Slot.row_len] at h; omega)).judge := by
  have hl : i < l.length := by rw [Slot.row_len] at h; omega
  have := flat_get Slot.enc 5 Slot.len l i 3 hl (by omega)
  have h2 : (Slot.row l)[i * 5 + 3]? = some (.int l[i].judge) := this
  rw [List.getElem?_eq_getElem h] at h2
  exact Option.some.inj h2
@[simp] theorem Slot.row_get3 (l : List Slot) (i : Nat) (h : i < l.length) : (Slot.row l)[i * 5 + 3]? = some (.int l[i].judge) := flat_get Slot.enc 5 Slot.len l i 3 h (by omega)
@[simp] theorem Slot.row_getE4 (l : List Slot) (i : Nat) (h : i * 5 + 4 < (Slot.row l).length) : (Slot.row l)[i * 5 + 4]'h = .int (l[i]'(by rw [Slot.row_len] at h; omega)).item := by
  have hl : i < l.length := by rw [Slot.row_len] at h; omega
  have := flat_get Slot.enc 5 Slot.len l i 4 hl (by omega)
  have h2 : (Slot.row l)[i * 5 + 4]? = some (.int l[i].item) := this
  rw [List.getElem?_eq_getElem h] at h2
  exact Option.some.inj h2
@[simp] theorem Slot.row_get4 (l : List Slot) (i : Nat) (h : i < l.length) : (Slot.row l)[i * 5 + 4]? = some (.int l[i].item) := flat_get Slot.enc 5 Slot.len l i 4 h (by omega)
theorem Slot.row_set (l : List Slot) (i : Nat) (x : Slot) (h : i < l.length) : setCells (Slot.row l) (i * 5) x.enc = Slot.row (l.set i x) := flat_set Slot.enc 5 Slot.len l i x h
theorem Slot.row_fz (b : Nat) (o : PObj) (k : Nat) (l : List Slot) : fzps b o k (Slot.row l) = Slot.row l := flat_fz Slot.enc Slot.fz b o k l
attribute [simp] Slot.row_fz

def slotOf (e : Event) : Slot := ⟨e.kind, e.round, e.entry, e.judge, e.item⟩
def Slot.kv (x : Slot) : Value := .agg #[.int .i64 x.kind, .int .i64 x.round, .int .i64 x.entry, .int .i64 x.judge, .int .i64 x.item]
@[simp high] theorem Slot.key_pv (x : Slot) : PV.key? (.agg x.enc) = some x.kv := rfl
@[simp] theorem Slot.fits (x : Slot) : keyFits (true, [.int, .int, .int, .int, .int]) x.kv = true := rfl
theorem Slot.idx (x : Slot) (l : List Slot) : kidx (true, [.int, .int, .int, .int, .int]) x.kv (l.map Slot.kv) = some (l.findIdx? fun y => decide (x = y)) :=
  kidx_enc _ _ (fun x y => Slot.eq x y) x l
theorem ofS_spec (e : Event) (st : Store) : Rets P F.record_of [e.pv] st (slotOf e).pv := of_spec e st
theorem sameSlot_iff (a b : Event) : sameSlot a b = decide (slotOf a = slotOf b) := by
  simp [sameSlot, slotOf, Slot.mk.injEq, Bool.and_assoc]
/-- The map's entries. -/
abbrev SM := List (Slot × Event)
def SM.ks (m : SM) : List Value := (m.map (·.1)).map Slot.kv
def SM.vs (m : SM) : List PV := (m.map (·.2)).map Event.pv
def SM.obj (m : SM) : PObj := .map m.ks m.vs
def SM.at? (m : SM) (s : Slot) : Option Nat := (m.map (·.1)).findIdx? fun y => decide (s = y)
def SM.look (m : SM) (s : Slot) : Option Event := (m.at? s).bind fun j => (m[j]?).map (·.2)
def SM.put (m : SM) (s : Slot) (y : Event) : SM := match m.at? s with | some j => m.set j (s, y) | none => m ++ [(s, y)]
theorem SM.at_lt {m : SM} {s : Slot} {j : Nat} (h : m.at? s = some j) : ∃ h : j < m.length, m[j].1 = s := by
  unfold SM.at? at h
  rw [List.findIdx?_eq_some_iff_getElem] at h
  obtain ⟨h1, h2, -⟩ := h
  simp only [List.length_map] at h1
  exact ⟨h1, by simpa using (of_decide_eq_true h2).symm⟩
theorem SM.look_some {m : SM} {s : Slot} {j : Nat} (h : m.at? s = some j) (hj : j < m.length) : m.look s = some m[j].2 := by
  simp [SM.look, h, hj]
theorem SM.look_none {m : SM} {s : Slot} (h : m.at? s = none) : m.look s = none := by simp [SM.look, h]
theorem SM.look_put (m : SM) (s s' : Slot) (y : Event) : (m.put s y).look s' = if s' = s then some y else m.look s' := by
  have set : ∀ (m : SM) (j : Nat), (m.map (·.1))[j]? = some s → ((m.set j (s, y)).map (·.1)) = m.map (·.1) := by
    intro m j h
    rw [List.map_set]
    apply List.ext_getElem?
    intro k
    rw [List.getElem?_set]
    split
    · rename_i e; subst e
      split
      · exact h.symm
      · rename_i hlt; rw [List.getElem?_eq_none (by omega)] at h; cases h
    · rfl
  unfold SM.put
  cases ha : m.at? s with
  | some j =>
    obtain ⟨hj, hs⟩ := SM.at_lt ha
    have hk := set m j (by simp [hj, hs])
    have hat : ∀ q, SM.at? (m.set j (s, y)) q = m.at? q := fun q => by unfold SM.at?; rw [hk]
    simp only
    by_cases e : s' = s
    · subst e
      rw [if_pos rfl]
      simp [SM.look, hat, ha, hj]
    · rw [if_neg e]
      unfold SM.look
      rw [hat]
      cases hq : m.at? s' with
      | none => rfl
      | some q =>
        obtain ⟨hq1, hq2⟩ := SM.at_lt hq
        have hne : j ≠ q := by rintro rfl; exact e (hq2.symm.trans hs)
        simp [List.getElem?_set, hne]
  | none =>
    simp only
    have hat : ∀ q, SM.at? (m ++ [(s, y)]) q = (m.at? q).or (if q = s then some m.length else none) := fun q => by
      unfold SM.at?
      rw [List.map_append, List.findIdx?_append]
      simp [List.findIdx?_cons]
    by_cases e : s' = s
    · subst e
      simp [SM.look, hat, ha]
    · rw [if_neg e]
      unfold SM.look
      rw [hat]
      cases hq : m.at? s' with
      | none => simp [e]
      | some q =>
        obtain ⟨hq1, hq2⟩ := SM.at_lt hq
        simp [List.getElem?_append_left hq1]
@[simp] theorem SM.map_obj (m : SM) : map? (some m.obj) = some (m.ks, m.vs) := rfl
@[simp high] theorem SM.xlook_t (m : SM) (s : Slot) (z : PV) (K : PV → Prop) : xlook (kidx (true, [.int, .int, .int, .int, .int]) s.kv m.ks) m.vs z true K = optK (m.look s) (fun y => K (.tuple [y.pv, .bool true])) (K (.tuple [z, .bool false])) := by
  rw [SM.ks, Slot.idx]
  change xlook (some (m.at? s)) _ _ _ _ = _
  cases h : m.at? s with
  | none => rw [SM.look_none h]; rfl
  | some j =>
    obtain ⟨hj, -⟩ := SM.at_lt h
    rw [SM.look_some h hj]
    simp [SM.vs, hj]
@[simp high] theorem SM.xlook_f (m : SM) (s : Slot) (z : PV) (K : PV → Prop) : xlook (kidx (true, [.int, .int, .int, .int, .int]) s.kv m.ks) m.vs z false K = optK (m.look s) (fun y => K y.pv) (K z) := by
  rw [SM.ks, Slot.idx]
  change xlook (some (m.at? s)) _ _ _ _ = _
  cases h : m.at? s with
  | none => rw [SM.look_none h]; rfl
  | some j =>
    obtain ⟨hj, -⟩ := SM.at_lt h
    rw [SM.look_some h hj]
    simp [SM.vs, hj]
@[simp high] theorem SM.xput_eq (b : Nat) (m : SM) (s : Slot) (y : Event) (st : Store) (K : PV → Store → Prop) : xput b s.kv y.pv m.ks m.vs (kidx (true, [.int, .int, .int, .int, .int]) s.kv m.ks) st K = K .any (sset st b (m.put s y).obj) := by
  rw [SM.ks, Slot.idx]
  change xput _ _ _ _ _ (some (m.at? s)) _ _ = _
  cases h : m.at? s with
  | none => simp [SM.put, h, SM.obj, SM.ks, SM.vs]
  | some j => simp [SM.put, h, SM.obj, SM.ks, SM.vs, List.map_set]
/-- The best event of a slot. -/
def Best (d t : Int) (L : List Event) (s : Slot) (y : Event) : Prop := y ∈ L ∧ slotOf y = s ∧ counts y d t = true ∧ ∀ z ∈ L, slotOf z = s → counts z d t = true → later z y = false
def Good (d t : Int) (L : List Event) (m : SM) : Prop := ∀ s y, m.look s = some y ↔ Best d t L s y
theorem later_f {a b : Event} : later a b = false ↔ a.at' < b.at' ∨ a.at' = b.at' ∧ a.no ≤ b.no := by
  simp [later]; omega
theorem exists_best (d t : Int) (s : Slot) : ∀ (L : List Event), (∃ z ∈ L, slotOf z = s ∧ counts z d t = true) → ∃ w, Best d t L s w
  | [], ⟨z, h, _⟩ => by simp at h
  | x :: L, hz => by
    by_cases hL : ∃ z ∈ L, slotOf z = s ∧ counts z d t = true
    · obtain ⟨w, h1, h2, h3, h4⟩ := exists_best d t s L hL
      by_cases hx : (slotOf x = s ∧ counts x d t = true) ∧ later x w = true
      · refine ⟨x, by simp, hx.1.1, hx.1.2, fun z hz hs hcz => ?_⟩
        rcases List.mem_cons.1 hz with rfl | hz
        · rw [later_f]; omega
        · have := h4 z hz hs hcz
          rw [later_f] at this ⊢
          have h5 : ¬ later x w = false := by rw [hx.2]; simp
          rw [later_f] at h5
          omega
      · refine ⟨w, by simp [h1], h2, h3, fun z hz hs hcz => ?_⟩
        rcases List.mem_cons.1 hz with rfl | hz
        · cases h : later z w with
          | false => rfl
          | true => exact absurd ⟨⟨hs, hcz⟩, h⟩ hx
        · exact h4 z hz hs hcz
    · obtain ⟨z, hz, hs, hcz⟩ := hz
      rcases List.mem_cons.1 hz with rfl | hz'
      · refine ⟨z, by simp, hs, hcz, fun y hy h1 h2 => ?_⟩
        rcases List.mem_cons.1 hy with rfl | hy
        · rw [later_f]; omega
        · exact absurd ⟨y, hy, h1, h2⟩ hL
      · exact absurd ⟨z, hz', hs, hcz⟩ hL
theorem best_skip {d t : Int} {L : List Event} {x : Event} (h : counts x d t = false) (s : Slot) (y : Event) : Best d t (L ++ [x]) s y ↔ Best d t L s y := by
  constructor
  · rintro ⟨h1, h2, h3, h4⟩
    refine ⟨?_, h2, h3, fun z hz => h4 z (by simp [hz])⟩
    rcases List.mem_append.1 h1 with h1 | h1
    · exact h1
    · simp at h1; subst h1; rw [h] at h3; cases h3
  · rintro ⟨h1, h2, h3, h4⟩
    refine ⟨by simp [h1], h2, h3, fun z hz hs hcz => ?_⟩
    rcases List.mem_append.1 hz with hz | hz
    · exact h4 z hz hs hcz
    · simp at hz; subst hz; rw [h] at hcz; cases hcz
theorem best_put {d t : Int} {L : List Event} {x : Event} (hx : counts x d t = true) (hno : ∀ z ∈ L, z.no < x.no) (hz : ∀ z, Best d t L (slotOf x) z → z.at' ≤ x.at') (s : Slot) (y : Event) :
    Best d t (L ++ [x]) s y ↔ if s = slotOf x then y = x else Best d t L s y := by
  have hle : ∀ z ∈ L, slotOf z = slotOf x → counts z d t = true → later z x = false := fun z hzL hs hcz => by
    obtain ⟨w, hw⟩ := exists_best d t (slotOf x) L ⟨z, hzL, hs, hcz⟩
    have h1 := hz w hw
    have h2 := hw.2.2.2 z hzL hs hcz
    have h3 := hno z hzL
    rw [later_f] at h2 ⊢
    omega
  split
  · rename_i e
    subst e
    constructor
    · rintro ⟨h1, h2, h3, h4⟩
      rcases List.mem_append.1 h1 with h1 | h1
      · have h5 := h4 x (by simp) rfl hx
        have h6 := hle y h1 h2 h3
        have h7 := hno y h1
        rw [later_f] at h5 h6
        omega
      · simpa using h1
    · rintro rfl
      refine ⟨by simp, rfl, hx, fun z hzz hs hcz => ?_⟩
      rcases List.mem_append.1 hzz with hzz | hzz
      · exact hle z hzz hs hcz
      · simp at hzz; subst hzz; rw [later_f]; omega
  · rename_i e
    constructor
    · rintro ⟨h1, h2, h3, h4⟩
      refine ⟨?_, h2, h3, fun z hz => h4 z (by simp [hz])⟩
      rcases List.mem_append.1 h1 with h1 | h1
      · exact h1
      · simp at h1; subst h1; exact absurd h2.symm e
    · rintro ⟨h1, h2, h3, h4⟩
      refine ⟨by simp [h1], h2, h3, fun z hz hs hcz => ?_⟩
      rcases List.mem_append.1 hz with hz | hz
      · exact h4 z hz hs hcz
      · simp at hz; subst hz; exact absurd hs.symm e
theorem best_keep {d t : Int} {L : List Event} {x z : Event} (hz : Best d t L (slotOf x) z) (hlt : x.at' < z.at') (s : Slot) (y : Event) : Best d t (L ++ [x]) s y ↔ Best d t L s y := by
  constructor
  · rintro ⟨h1, h2, h3, h4⟩
    refine ⟨?_, h2, h3, fun z hz => h4 z (by simp [hz])⟩
    rcases List.mem_append.1 h1 with h1 | h1
    · exact h1
    · simp at h1; subst h1
      have := h4 z (by simp [hz.1]) (hz.2.1.trans h2) hz.2.2.1
      rw [later_f] at this
      omega
  · rintro ⟨h1, h2, h3, h4⟩
    refine ⟨by simp [h1], h2, h3, fun w hw hs hcw => ?_⟩
    rcases List.mem_append.1 hw with hw | hw
    · exact h4 w hw hs hcw
    · simp at hw; subst hw
      have := h4 z hz.1 (hz.2.1.trans hs) hz.2.2.1
      rw [later_f] at this ⊢
      omega
theorem best_stands (d t : Int) (l : List Event) {y : Event} (hy : y ∈ l) : Best d t l (slotOf y) y ↔ stands l y d t = true := by
  simp only [stands, Bool.and_eq_true, List.all_eq_true, Best]
  constructor
  · rintro ⟨-, -, h3, h4⟩
    refine ⟨h3, fun z hz => ?_⟩
    have := h4 z hz
    rw [sameSlot_iff]
    by_cases h1 : slotOf z = slotOf y <;> by_cases h2 : counts z d t = true <;> simp_all
  · rintro ⟨h3, h4⟩
    refine ⟨hy, trivial, h3, fun z hz hs hcz => ?_⟩
    have := h4 z hz
    rw [sameSlot_iff] at this
    simpa [hs, hcz] using this
theorem standing_spec (tt : Bool) (l : List Event) (d t : Int) (st : Store) : Rets P F.record_Standing [Event.lst tt l, .int d, .int t] st (.tuple [Event.lst false (standL l d t), .int (standN l d t)]) := by
  refine H.record_Standing.view hmix rfl rfl ?_
  by_cases hc : checkE l = 0
  · obtain ⟨hl, hok⟩ := checkE_zero.1 hc
    by_cases ht : timeE d t = true
    · have h1 : btw d 0 2097151 = true ∧ btw t 0 2097151 = true := by simpa [timeE] using ht
      have hN : standN l d t = 0 := by simp_all [standN]
      have hL : standL l d t = l.filter fun x => stands l x d t := by simp [standL, hN]
      repeat' (first
        | (with_reducible refine Fresh.intro fun b hb => ?_) <;> (try simp -dsimp -implicitDefEqProofs [*] at hb)
        | (with_reducible refine Rets.xcall (check_spec _ _ _) ?_)
        | (with_reducible refine Rets.xsoft (check_spec _ _ _) ?_)
        | (with_reducible refine xlateCall_of (fun _ => check_spec _ _ _) ?_)
        | (with_reducible refine Rets.xcall (between_spec ..) ?_)
        | (with_reducible refine Rets.xsoft (between_spec ..) ?_)
        | (with_reducible refine xlateCall_of (fun _ => between_spec ..) ?_)
        | (with_reducible refine Lit.imm ?_)
        | ((with_reducible refine Grow.intro ?_ fun b cap hb hc1 hc2 => ?_); omega) <;> (try simp -dsimp -implicitDefEqProofs [*] at hb)
        | (with_reducible refine DrawLate.intro [] ?_)
        | (with_reducible refine Cls_and ?_ ?_)
        | (with_reducible exact Cls.self _ _)
        | (with_reducible refine Cls_same ?_)
        | (with_reducible refine Cls_in ?_ ?_)
        | (with_reducible refine Cls_fresh ?_ ?_)
        | (with_reducible refine And.intro (fun h => ?_) (fun h => ?_)) <;> (try (exfalso; omega))
        | (with_reducible refine And.intro (fun h => ?_) ?_) <;> (try (exfalso; omega))
        | ((with_reducible refine and_keep ?_ fun hk => ?_); omega)
        | (simp -dsimp -implicitDefEqProofs [*]))
      refine xloop_for (fun y : Nat × SM => [(0, Event.lst tt l), (1, .int d), (2, .int t), (6, .nil), (9, .val (.map (some b))), (30, Event.lst tt l), (31, .int l.length), (32, .int (y.1 : Nat))]) (fun y => (b, y.2.obj) :: st)
        (fun y => y.1 ≤ l.length ∧ Good d t (l.take y.1) y.2) (fun y => l.length - y.1) (0, []) ?_ ?_ ?_ ?_
      · refine ⟨Nat.zero_le _, fun s y => ?_⟩
        simp [Best, SM.look, SM.at?]
      · simp
      · exact StLe.refl _
      rintro ⟨i, m⟩ ⟨hi, hg⟩
      simp only at hi hg
      have hw := wrap_succ (n := i) (by omega)
      have htk : ∀ h : i < l.length, l.take (i + 1) = l.take i ++ [l[i]] := fun h => List.take_succ_eq_append_getElem h
      have hlo : ∀ h : i < l.length, ∀ z ∈ l.take i, z.no < l[i].no := fun h z hz => by
        obtain ⟨j, hj, rfl⟩ := List.mem_iff_getElem.1 hz
        simp only [List.length_take] at hj
        simp only [List.getElem_take]
        exact sortedE hok j i (by omega) h (by omega)
      repeat' (first
        | (with_reducible refine Fresh.intro fun b hb => ?_) <;> (try simp -dsimp -implicitDefEqProofs [*] at hb)
        | (with_reducible refine Rets.xcall (ofS_spec _ _) ?_)
        | (with_reducible refine Rets.xsoft (ofS_spec _ _) ?_)
        | (with_reducible refine xlateCall_of (fun _ => ofS_spec _ _) ?_)
        | (with_reducible refine Lit.imm ?_)
        | ((with_reducible refine Grow.intro ?_ fun b cap hb hc1 hc2 => ?_); omega) <;> (try simp -dsimp -implicitDefEqProofs [*] at hb)
        | (with_reducible refine Cls_and ?_ ?_)
        | (with_reducible exact Cls.self _ _)
        | (with_reducible refine Cls_same ?_)
        | (with_reducible refine Cls_in ?_ ?_)
        | (with_reducible refine Cls_fresh ?_ ?_)
        | (with_reducible refine And.intro (fun h => ?_) (fun h => ?_)) <;> (try (exfalso; omega))
        | (with_reducible refine And.intro (fun h => ?_) ?_) <;> (try (exfalso; omega))
        | ((with_reducible refine and_keep ?_ fun hk => ?_); omega)
        | (simp -dsimp -implicitDefEqProofs [*]))
      · refine Next.intro (i + 1, m) ⟨by simp only; omega, ?_⟩ (by simp only; omega) (by simp) (by repeat' (first | exact StLe.refl _ | (refine StLe_cons (by simp [*]; done) ?_) | (refine StLe_fresh (by simp [*]; done) ?_)))
        rw [htk ‹_›]
        exact fun s y => (hg s y).trans (best_skip (by simp [counts]; omega) s y).symm
      · refine Next.intro (i + 1, m) ⟨by simp only; omega, ?_⟩ (by simp only; omega) (by simp) (by repeat' (first | exact StLe.refl _ | (refine StLe_cons (by simp [*]; done) ?_) | (refine StLe_fresh (by simp [*]; done) ?_)))
        rw [htk ‹_›]
        exact fun s y => (hg s y).trans (best_skip (by simp [counts]; omega) s y).symm
      · rename_i bm hbm h0 h2
        have hcn : counts l[i] d t = true := by simp [counts]; omega
        have put : (∀ z, Best d t (l.take i) (slotOf l[i]) z → z.at' ≤ l[i].at') → Good d t (l.take (i + 1)) (m.put (slotOf l[i]) l[i]) := fun hz s y => by
          rw [htk ‹_›, SM.look_put, best_put hcn (hlo ‹_›) hz]
          split
          · simp [eq_comm]
          · exact hg s y
        cases hlk : m.look (slotOf l[i]) with
        | none =>
          have hgood := put fun z hz => by have := (hg _ z).2 hz; rw [hlk] at this; cases this
          clear put
          repeat' (first
            | (with_reducible refine Fresh.intro fun b hb => ?_) <;> (try simp -dsimp -implicitDefEqProofs [*] at hb)
            | (with_reducible refine Lit.imm ?_)
            | ((with_reducible refine Grow.intro ?_ fun b cap hb hc1 hc2 => ?_); omega) <;> (try simp -dsimp -implicitDefEqProofs [*] at hb)
            | (with_reducible refine Cls_and ?_ ?_)
            | (with_reducible exact Cls.self _ _)
            | (with_reducible refine Cls_same ?_)
            | (with_reducible refine Cls_in ?_ ?_)
            | (with_reducible refine Cls_fresh ?_ ?_)
            | (with_reducible refine And.intro (fun h => ?_) (fun h => ?_)) <;> (try (exfalso; omega))
            | (with_reducible refine And.intro (fun h => ?_) ?_) <;> (try (exfalso; omega))
            | ((with_reducible refine and_keep ?_ fun hk => ?_); omega)
            | (simp -dsimp -implicitDefEqProofs [*]))
          refine DrawLate.intro [bm] ?_
          repeat' (first
            | (with_reducible refine Fresh.intro fun b hb => ?_) <;> (try simp -dsimp -implicitDefEqProofs [*] at hb)
            | (with_reducible refine Rets.xcall (ofS_spec _ _) ?_)
            | (with_reducible refine Rets.xsoft (ofS_spec _ _) ?_)
            | (with_reducible refine xlateCall_of (fun _ => ofS_spec _ _) ?_)
            | (with_reducible refine Lit.imm ?_)
            | ((with_reducible refine Grow.intro ?_ fun b cap hb hc1 hc2 => ?_); omega) <;> (try simp -dsimp -implicitDefEqProofs [*] at hb)
            | (with_reducible refine Cls_and ?_ ?_)
            | (with_reducible exact Cls.self _ _)
            | (with_reducible refine Cls_same ?_)
            | (with_reducible refine Cls_in ?_ ?_)
            | (with_reducible refine Cls_fresh ?_ ?_)
            | (with_reducible refine And.intro (fun h => ?_) (fun h => ?_)) <;> (try (exfalso; omega))
            | (with_reducible refine And.intro (fun h => ?_) ?_) <;> (try (exfalso; omega))
            | ((with_reducible refine and_keep ?_ fun hk => ?_); omega)
            | (simp -dsimp -implicitDefEqProofs [*]))
          exact Next.intro (i + 1, m.put (slotOf l[i]) l[i]) ⟨by simp only; omega, hgood⟩ (by simp only; omega) (by simp) (by repeat' (first | exact StLe.refl _ | (refine StLe_cons (by simp [*]; done) ?_) | (refine StLe_fresh (by simp [*]; done) ?_)))
        | some z =>
          have hz := (hg _ z).1 hlk
          have huniq : ∀ w, Best d t (l.take i) (slotOf l[i]) w → w = z := fun w hw => by
            have := (hg _ w).2 hw
            rw [hlk] at this
            exact (Option.some.inj this).symm
          repeat' (first
            | (with_reducible refine Fresh.intro fun b hb => ?_) <;> (try simp -dsimp -implicitDefEqProofs [*] at hb)
            | (with_reducible refine Lit.imm ?_)
            | ((with_reducible refine Grow.intro ?_ fun b cap hb hc1 hc2 => ?_); omega) <;> (try simp -dsimp -implicitDefEqProofs [*] at hb)
            | (with_reducible refine Cls_and ?_ ?_)
            | (with_reducible exact Cls.self _ _)
            | (with_reducible refine Cls_same ?_)
            | (with_reducible refine Cls_in ?_ ?_)
            | (with_reducible refine Cls_fresh ?_ ?_)
            | (with_reducible refine And.intro (fun h => ?_) (fun h => ?_)) <;> (try (exfalso; omega))
            | (with_reducible refine And.intro (fun h => ?_) ?_) <;> (try (exfalso; omega))
            | ((with_reducible refine and_keep ?_ fun hk => ?_); omega)
            | (simp -dsimp -implicitDefEqProofs [*]))
          · have hgood := put fun w hw => by rw [huniq w hw]; omega
            clear put huniq
            refine DrawLate.intro [bm] ?_
            repeat' (first
              | (with_reducible refine Fresh.intro fun b hb => ?_) <;> (try simp -dsimp -implicitDefEqProofs [*] at hb)
              | (with_reducible refine Rets.xcall (ofS_spec _ _) ?_)
              | (with_reducible refine Rets.xsoft (ofS_spec _ _) ?_)
              | (with_reducible refine xlateCall_of (fun _ => ofS_spec _ _) ?_)
              | (with_reducible refine Lit.imm ?_)
              | ((with_reducible refine Grow.intro ?_ fun b cap hb hc1 hc2 => ?_); omega) <;> (try simp -dsimp -implicitDefEqProofs [*] at hb)
              | (with_reducible refine Cls_and ?_ ?_)
              | (with_reducible exact Cls.self _ _)
              | (with_reducible refine Cls_same ?_)
              | (with_reducible refine Cls_in ?_ ?_)
              | (with_reducible refine Cls_fresh ?_ ?_)
              | (with_reducible refine And.intro (fun h => ?_) (fun h => ?_)) <;> (try (exfalso; omega))
              | (with_reducible refine And.intro (fun h => ?_) ?_) <;> (try (exfalso; omega))
              | ((with_reducible refine and_keep ?_ fun hk => ?_); omega)
              | (simp -dsimp -implicitDefEqProofs [*]))
            exact Next.intro (i + 1, m.put (slotOf l[i]) l[i]) ⟨by simp only; omega, hgood⟩ (by simp only; omega) (by simp) (by repeat' (first | exact StLe.refl _ | (refine StLe_cons (by simp [*]; done) ?_) | (refine StLe_fresh (by simp [*]; done) ?_)))
          · refine Next.intro (i + 1, m) ⟨by simp only; omega, ?_⟩ (by simp only; omega) (by simp) (by repeat' (first | exact StLe.refl _ | (refine StLe_cons (by simp [*]; done) ?_) | (refine StLe_fresh (by simp [*]; done) ?_)))
            rw [htk ‹_›]
            exact fun s y => (hg s y).trans (best_keep hz (by omega) s y).symm
      · rw [List.take_of_length_le ‹_›] at hg
        clear htk hlo hw
        refine xloop_for (fun y : Nat × Option (Acc Event) => [(0, Event.lst tt l), (1, .int d), (2, .int t), (6, accP y.2), (9, .val (.map (some b))), (67, Event.lst tt l), (68, .int l.length), (69, .int (y.1 : Nat))]) (fun y => accS T.apiEvent ((b, m.obj) :: st) y.2)
          (fun y => y.1 ≤ l.length ∧ accOk Event.row 9 ((b, m.obj) :: st) y.2 ∧ ((l.take y.1).filter fun x => stands l x d t) = accL y.2) (fun y => l.length - y.1) (0, none) ?_ ?_ ?_ ?_
        · simp
        · simp
        · simp
        rintro ⟨i, a⟩ ⟨hi, ha, hF⟩
        simp only at hi ha hF
        have hw := wrap_succ (n := i) (by omega)
        have hfl := filter_take_le (fun x => stands l x d t) l i
        rw [hF] at hfl
        have hst : ∀ h : i < l.length, m.look (slotOf l[i]) = some l[i] ↔ stands l l[i] d t = true := fun h => (hg _ _).trans (best_stands d t l (List.getElem_mem h))
        have hzero : ∀ h : i < l.length, ¬ Event.mk 0 0 0 0 0 0 0 0 0 = l[i] := fun h e => by
          have := hok.1 _ (List.getElem_mem h)
          rw [← e] at this
          simp [rightE] at this
        have hfs := fun h => filter_snoc (fun x => stands l x d t) l i h
        cases a with
        | none =>
          repeat' (first
            | (with_reducible refine Fresh.intro fun b hb => ?_) <;> (try simp -dsimp -implicitDefEqProofs [*] at hb)
            | (with_reducible refine Rets.xcall (ofS_spec _ _) ?_)
            | (with_reducible refine Rets.xsoft (ofS_spec _ _) ?_)
            | (with_reducible refine xlateCall_of (fun _ => ofS_spec _ _) ?_)
            | (with_reducible refine Lit.imm ?_)
            | ((with_reducible refine Grow.intro ?_ fun b cap hb hc1 hc2 => ?_); omega) <;> (try simp -dsimp -implicitDefEqProofs [*] at hb)
            | (with_reducible refine DrawLate.intro [] ?_)
            | (with_reducible refine Cls_and ?_ ?_)
            | (with_reducible exact Cls.self _ _)
            | (with_reducible refine Cls_same ?_)
            | (with_reducible refine Cls_in ?_ ?_)
            | (with_reducible refine Cls_fresh ?_ ?_)
            | (with_reducible refine And.intro (fun h => ?_) (fun h => ?_)) <;> (try (exfalso; omega))
            | (with_reducible refine And.intro (fun h => ?_) ?_) <;> (try (exfalso; omega))
            | ((with_reducible refine and_keep ?_ fun hk => ?_); omega)
            | (simp -dsimp -implicitDefEqProofs [*]))
          · cases hlk : m.look (slotOf l[i]) with
            | none =>
              have hno : stands l l[i] d t = false := by
                cases h : stands l l[i] d t with
                | false => rfl
                | true => have := (hst ‹_›).2 h; rw [hlk] at this; cases this
              have hz := hzero ‹_›
              repeat' (first
                | (with_reducible refine Fresh.intro fun b hb => ?_) <;> (try simp -dsimp -implicitDefEqProofs [*] at hb)
                | (with_reducible refine Lit.imm ?_)
                | ((with_reducible refine Grow.intro ?_ fun b cap hb hc1 hc2 => ?_); omega) <;> (try simp -dsimp -implicitDefEqProofs [*] at hb)
                | (with_reducible refine DrawLate.intro [] ?_)
                | (with_reducible refine Cls_and ?_ ?_)
                | (with_reducible exact Cls.self _ _)
                | (with_reducible refine Cls_same ?_)
                | (with_reducible refine Cls_in ?_ ?_)
                | (with_reducible refine Cls_fresh ?_ ?_)
                | (with_reducible refine And.intro (fun h => ?_) (fun h => ?_)) <;> (try (exfalso; omega))
                | (with_reducible refine And.intro (fun h => ?_) ?_) <;> (try (exfalso; omega))
                | ((with_reducible refine and_keep ?_ fun hk => ?_); omega)
                | (simp -dsimp -implicitDefEqProofs [Event.fold, *]))
              exact Next.intro (i + 1, none) ⟨by simp only; omega, by simp, by simp only; rw [hfs ‹_›, hF, hno]; simp⟩ (by simp only; omega) (by simp) (by repeat' (first | exact StLe.refl _ | (refine StLe_cons (by simp [*]; done) ?_) | (refine StLe_fresh (by simp [*]; done) ?_)))
            | some w =>
              by_cases hw2 : w = l[i]
              · subst hw2
                have hyes := (hst ‹_›).1 hlk
                repeat' (first
                  | (with_reducible refine Fresh.intro fun b hb => ?_) <;> (try simp -dsimp -implicitDefEqProofs [*] at hb)
                  | (with_reducible refine Lit.imm ?_)
                  | ((with_reducible refine Grow.intro ?_ fun b cap hb hc1 hc2 => ?_); omega) <;> (try simp -dsimp -implicitDefEqProofs [*] at hb)
                  | (with_reducible refine DrawLate.intro [] ?_)
                  | (with_reducible refine Cls_and ?_ ?_)
                  | (with_reducible exact Cls.self _ _)
                  | (with_reducible refine Cls_same ?_)
                  | (with_reducible refine Cls_in ?_ ?_)
                  | (with_reducible refine Cls_fresh ?_ ?_)
                  | (with_reducible refine And.intro (fun h => ?_) (fun h => ?_)) <;> (try (exfalso; omega))
                  | (with_reducible refine And.intro (fun h => ?_) ?_) <;> (try (exfalso; omega))
                  | ((with_reducible refine and_keep ?_ fun hk => ?_); omega)
                  | (simp -dsimp -implicitDefEqProofs [*]))
                refine xappend_acc0 Event.row_len [l[i]] (by simp) (by simp) (by omega) (by omega) fun a' ha' hl' hb' => ?_
                simp -dsimp -implicitDefEqProofs [*] at hb'
                have hl2 := hl'.symm
                clear hl'
                repeat' (first
                  | (with_reducible refine Fresh.intro fun b hb => ?_) <;> (try simp -dsimp -implicitDefEqProofs [*] at hb)
                  | (with_reducible refine Lit.imm ?_)
                  | ((with_reducible refine Grow.intro ?_ fun b cap hb hc1 hc2 => ?_); omega) <;> (try simp -dsimp -implicitDefEqProofs [*] at hb)
                  | (with_reducible refine DrawLate.intro [] ?_)
                  | (with_reducible refine Cls_and ?_ ?_)
                  | (with_reducible exact Cls.self _ _)
                  | (with_reducible refine Cls_same ?_)
                  | (with_reducible refine Cls_in ?_ ?_)
                  | (with_reducible refine Cls_fresh ?_ ?_)
                  | (with_reducible refine And.intro (fun h => ?_) (fun h => ?_)) <;> (try (exfalso; omega))
                  | (with_reducible refine And.intro (fun h => ?_) ?_) <;> (try (exfalso; omega))
                  | ((with_reducible refine and_keep ?_ fun hk => ?_); omega)
                  | (simp -dsimp -implicitDefEqProofs [*]))
                exact Next.intro (i + 1, some a') ⟨by simp only; omega, by simp [*], by simp only; rw [hfs ‹_›, hF, hyes]; simpa using hl2⟩ (by simp only; omega) (by simp) (by repeat' (first | exact StLe.refl _ | (refine StLe_cons (by simp [*]; done) ?_) | (refine StLe_fresh (by simp [*]; done) ?_)))
              · have hno : stands l l[i] d t = false := by
                  cases h : stands l l[i] d t with
                  | false => rfl
                  | true => have := (hst ‹_›).2 h; rw [hlk] at this; exact absurd (Option.some.inj this) hw2
                repeat' (first
                  | (with_reducible refine Fresh.intro fun b hb => ?_) <;> (try simp -dsimp -implicitDefEqProofs [*] at hb)
                  | (with_reducible refine Lit.imm ?_)
                  | ((with_reducible refine Grow.intro ?_ fun b cap hb hc1 hc2 => ?_); omega) <;> (try simp -dsimp -implicitDefEqProofs [*] at hb)
                  | (with_reducible refine DrawLate.intro [] ?_)
                  | (with_reducible refine Cls_and ?_ ?_)
                  | (with_reducible exact Cls.self _ _)
                  | (with_reducible refine Cls_same ?_)
                  | (with_reducible refine Cls_in ?_ ?_)
                  | (with_reducible refine Cls_fresh ?_ ?_)
                  | (with_reducible refine And.intro (fun h => ?_) (fun h => ?_)) <;> (try (exfalso; omega))
                  | (with_reducible refine And.intro (fun h => ?_) ?_) <;> (try (exfalso; omega))
                  | ((with_reducible refine and_keep ?_ fun hk => ?_); omega)
                  | (simp -dsimp -implicitDefEqProofs [*]))
                exact Next.intro (i + 1, none) ⟨by simp only; omega, by simp, by simp only; rw [hfs ‹_›, hF, hno]; simp⟩ (by simp only; omega) (by simp) (by repeat' (first | exact StLe.refl _ | (refine StLe_cons (by simp [*]; done) ?_) | (refine StLe_fresh (by simp [*]; done) ?_)))
          · rw [List.take_of_length_le ‹_›] at hF
            have hF' : List.filter (fun x => stands l x d t) l = [] := hF
            repeat' (first
              | (with_reducible refine Fresh.intro fun b hb => ?_) <;> (try simp -dsimp -implicitDefEqProofs [*] at hb)
              | (with_reducible refine Lit.imm ?_)
              | ((with_reducible refine Grow.intro ?_ fun b cap hb hc1 hc2 => ?_); omega) <;> (try simp -dsimp -implicitDefEqProofs [*] at hb)
              | (with_reducible refine RetView.nil2 ?_)
              | (with_reducible refine RetView.nil1 ?_)
              | (with_reducible refine RetView.loose2 (t := true) ?_)
              | (with_reducible refine RetView.loose1 (t := true) ?_)
              | (with_reducible refine RetView.fz 9 ?_ ?_)
              | (with_reducible refine RetView.same ?_)
              | (with_reducible refine DrawLate.intro [] ?_)
              | (with_reducible refine Cls_and ?_ ?_)
              | (with_reducible exact Cls.self _ _)
              | (with_reducible refine Cls_same ?_)
              | (with_reducible refine Cls_in ?_ ?_)
              | (with_reducible refine Cls_fresh ?_ ?_)
              | (with_reducible refine And.intro (fun h => ?_) (fun h => ?_)) <;> (try (exfalso; omega))
              | (with_reducible refine And.intro (fun h => ?_) ?_) <;> (try (exfalso; omega))
              | ((with_reducible refine and_keep ?_ fun hk => ?_); omega)
              | (simp -dsimp -implicitDefEqProofs [*]))
        | some a =>
          obtain ⟨hao, hab⟩ := ha
          simp only [snew_cons] at hab
          have hF' : (l.take i).filter (fun x => stands l x d t) = a.l := hF
          have hfl' : a.l.length ≤ i := hfl
          clear hF hfl
          repeat' (first
            | (with_reducible refine Fresh.intro fun b hb => ?_) <;> (try simp -dsimp -implicitDefEqProofs [*] at hb)
            | (with_reducible refine Rets.xcall (ofS_spec _ _) ?_)
            | (with_reducible refine Rets.xsoft (ofS_spec _ _) ?_)
            | (with_reducible refine xlateCall_of (fun _ => ofS_spec _ _) ?_)
            | (with_reducible refine Lit.imm ?_)
            | ((with_reducible refine Grow.intro ?_ fun b cap hb hc1 hc2 => ?_); omega) <;> (try simp -dsimp -implicitDefEqProofs [*] at hb)
            | (with_reducible refine DrawLate.intro [] ?_)
            | (with_reducible refine Cls_and ?_ ?_)
            | (with_reducible exact Cls.self _ _)
            | (with_reducible refine Cls_same ?_)
            | (with_reducible refine Cls_in ?_ ?_)
            | (with_reducible refine Cls_fresh ?_ ?_)
            | (with_reducible refine And.intro (fun h => ?_) (fun h => ?_)) <;> (try (exfalso; omega))
            | (with_reducible refine And.intro (fun h => ?_) ?_) <;> (try (exfalso; omega))
            | ((with_reducible refine and_keep ?_ fun hk => ?_); omega)
            | (simp -dsimp -implicitDefEqProofs [*]))
          · cases hlk : m.look (slotOf l[i]) with
            | none =>
              have hno : stands l l[i] d t = false := by
                cases h : stands l l[i] d t with
                | false => rfl
                | true => have := (hst ‹_›).2 h; rw [hlk] at this; cases this
              have hz := hzero ‹_›
              repeat' (first
                | (with_reducible refine Fresh.intro fun b hb => ?_) <;> (try simp -dsimp -implicitDefEqProofs [*] at hb)
                | (with_reducible refine Lit.imm ?_)
                | ((with_reducible refine Grow.intro ?_ fun b cap hb hc1 hc2 => ?_); omega) <;> (try simp -dsimp -implicitDefEqProofs [*] at hb)
                | (with_reducible refine DrawLate.intro [] ?_)
                | (with_reducible refine Cls_and ?_ ?_)
                | (with_reducible exact Cls.self _ _)
                | (with_reducible refine Cls_same ?_)
                | (with_reducible refine Cls_in ?_ ?_)
                | (with_reducible refine Cls_fresh ?_ ?_)
                | (with_reducible refine And.intro (fun h => ?_) (fun h => ?_)) <;> (try (exfalso; omega))
                | (with_reducible refine And.intro (fun h => ?_) ?_) <;> (try (exfalso; omega))
                | ((with_reducible refine and_keep ?_ fun hk => ?_); omega)
                | (simp -dsimp -implicitDefEqProofs [Event.fold, *]))
              exact Next.intro (i + 1, some a) ⟨by simp only; omega, by simp [*], by simp only; rw [hfs ‹_›, hF', hno]; simp⟩ (by simp only; omega) (by simp) (by repeat' (first | exact StLe.refl _ | (refine StLe_cons (by simp [*]; done) ?_) | (refine StLe_fresh (by simp [*]; done) ?_)))
            | some w =>
              by_cases hw2 : w = l[i]
              · subst hw2
                have hyes := (hst ‹_›).1 hlk
                repeat' (first
                  | (with_reducible refine Fresh.intro fun b hb => ?_) <;> (try simp -dsimp -implicitDefEqProofs [*] at hb)
                  | (with_reducible refine Lit.imm ?_)
                  | ((with_reducible refine Grow.intro ?_ fun b cap hb hc1 hc2 => ?_); omega) <;> (try simp -dsimp -implicitDefEqProofs [*] at hb)
                  | (with_reducible refine DrawLate.intro [] ?_)
                  | (with_reducible refine Cls_and ?_ ?_)
                  | (with_reducible exact Cls.self _ _)
                  | (with_reducible refine Cls_same ?_)
                  | (with_reducible refine Cls_in ?_ ?_)
                  | (with_reducible refine Cls_fresh ?_ ?_)
                  | (with_reducible refine And.intro (fun h => ?_) (fun h => ?_)) <;> (try (exfalso; omega))
                  | (with_reducible refine And.intro (fun h => ?_) ?_) <;> (try (exfalso; omega))
                  | ((with_reducible refine and_keep ?_ fun hk => ?_); omega)
                  | (simp -dsimp -implicitDefEqProofs [*]))
                refine xappend_acc Event.row_len Event.row_append hao (by simp [*]) [l[i]] (by simp) (by simp) (by omega) fun a' ha' hl' hb' => ?_
                simp -dsimp -implicitDefEqProofs [*] at hb'
                have hl2 := hl'.symm
                clear hl'
                repeat' (first
                  | (with_reducible refine Fresh.intro fun b hb => ?_) <;> (try simp -dsimp -implicitDefEqProofs [*] at hb)
                  | (with_reducible refine Lit.imm ?_)
                  | ((with_reducible refine Grow.intro ?_ fun b cap hb hc1 hc2 => ?_); omega) <;> (try simp -dsimp -implicitDefEqProofs [*] at hb)
                  | (with_reducible refine DrawLate.intro [] ?_)
                  | (with_reducible refine Cls_and ?_ ?_)
                  | (with_reducible exact Cls.self _ _)
                  | (with_reducible refine Cls_same ?_)
                  | (with_reducible refine Cls_in ?_ ?_)
                  | (with_reducible refine Cls_fresh ?_ ?_)
                  | (with_reducible refine And.intro (fun h => ?_) (fun h => ?_)) <;> (try (exfalso; omega))
                  | (with_reducible refine And.intro (fun h => ?_) ?_) <;> (try (exfalso; omega))
                  | ((with_reducible refine and_keep ?_ fun hk => ?_); omega)
                  | (simp -dsimp -implicitDefEqProofs [*]))
                exact Next.intro (i + 1, some a') ⟨by simp only; omega, by simp [*], by simp only; rw [hfs ‹_›, hF', hyes]; simpa using hl2⟩ (by simp only; omega) (by simp) (by repeat' (first | exact StLe.refl _ | (refine StLe_cons (by simp [*]; done) ?_) | (refine StLe_fresh (by simp [*]; done) ?_)))
              · have hno : stands l l[i] d t = false := by
                  cases h : stands l l[i] d t with
                  | false => rfl
                  | true => have := (hst ‹_›).2 h; rw [hlk] at this; exact absurd (Option.some.inj this) hw2
                repeat' (first
                  | (with_reducible refine Fresh.intro fun b hb => ?_) <;> (try simp -dsimp -implicitDefEqProofs [*] at hb)
                  | (with_reducible refine Lit.imm ?_)
                  | ((with_reducible refine Grow.intro ?_ fun b cap hb hc1 hc2 => ?_); omega) <;> (try simp -dsimp -implicitDefEqProofs [*] at hb)
                  | (with_reducible refine DrawLate.intro [] ?_)
                  | (with_reducible refine Cls_and ?_ ?_)
                  | (with_reducible exact Cls.self _ _)
                  | (with_reducible refine Cls_same ?_)
                  | (with_reducible refine Cls_in ?_ ?_)
                  | (with_reducible refine Cls_fresh ?_ ?_)
                  | (with_reducible refine And.intro (fun h => ?_) (fun h => ?_)) <;> (try (exfalso; omega))
                  | (with_reducible refine And.intro (fun h => ?_) ?_) <;> (try (exfalso; omega))
                  | ((with_reducible refine and_keep ?_ fun hk => ?_); omega)
                  | (simp -dsimp -implicitDefEqProofs [*]))
                exact Next.intro (i + 1, some a) ⟨by simp only; omega, by simp [*], by simp only; rw [hfs ‹_›, hF', hno]; simp⟩ (by simp only; omega) (by simp) (by repeat' (first | exact StLe.refl _ | (refine StLe_cons (by simp [*]; done) ?_) | (refine StLe_fresh (by simp [*]; done) ?_)))
          · rw [List.take_of_length_le ‹_›] at hF'
            have h2 := hao.row
            have h3 := hao.le
            have h4 := hao.cap
            repeat' (first
              | (with_reducible refine Fresh.intro fun b hb => ?_) <;> (try simp -dsimp -implicitDefEqProofs [*] at hb)
              | (with_reducible refine Lit.imm ?_)
              | ((with_reducible refine Grow.intro ?_ fun b cap hb hc1 hc2 => ?_); omega) <;> (try simp -dsimp -implicitDefEqProofs [*] at hb)
              | (with_reducible refine RetView.nil2 ?_)
              | (with_reducible refine RetView.nil1 ?_)
              | (with_reducible refine RetView.loose2 (t := true) ?_)
              | (with_reducible refine RetView.loose1 (t := true) ?_)
              | (with_reducible refine RetView.fz 9 ?_ ?_)
              | (with_reducible refine RetView.same ?_)
              | (with_reducible refine DrawLate.intro [] ?_)
              | (with_reducible refine Cls_and ?_ ?_)
              | (with_reducible exact Cls.self _ _)
              | (with_reducible refine Cls_same ?_)
              | (with_reducible refine Cls_in ?_ ?_)
              | (with_reducible refine Cls_fresh ?_ ?_)
              | (with_reducible refine And.intro (fun h => ?_) (fun h => ?_)) <;> (try (exfalso; omega))
              | (with_reducible refine And.intro (fun h => ?_) ?_) <;> (try (exfalso; omega))
              | ((with_reducible refine and_keep ?_ fun hk => ?_); omega)
              | (simp -dsimp -implicitDefEqProofs [*]))
    · have h1 : ¬ (btw d 0 2097151 = true ∧ btw t 0 2097151 = true) := by simpa [timeE] using ht
      have hN : standN l d t = 1 := by simp_all [standN]
      have hL : standL l d t = [] := by simp [standL, hN]
      repeat' (first
        | (with_reducible refine Fresh.intro fun b hb => ?_) <;> (try simp -dsimp -implicitDefEqProofs [*] at hb)
        | (with_reducible refine Rets.xcall (check_spec _ _ _) ?_)
        | (with_reducible refine Rets.xsoft (check_spec _ _ _) ?_)
        | (with_reducible refine xlateCall_of (fun _ => check_spec _ _ _) ?_)
        | (with_reducible refine Rets.xcall (between_spec ..) ?_)
        | (with_reducible refine Rets.xsoft (between_spec ..) ?_)
        | (with_reducible refine xlateCall_of (fun _ => between_spec ..) ?_)
        | (with_reducible refine Lit.imm ?_)
        | ((with_reducible refine Grow.intro ?_ fun b cap hb hc1 hc2 => ?_); omega) <;> (try simp -dsimp -implicitDefEqProofs [*] at hb)
        | (with_reducible refine RetView.nil2 ?_)
        | (with_reducible refine RetView.nil1 ?_)
        | (with_reducible refine RetView.loose2 (t := true) ?_)
        | (with_reducible refine RetView.loose1 (t := true) ?_)
        | (with_reducible refine RetView.fz 9 ?_ ?_)
        | (with_reducible refine RetView.same ?_)
        | (with_reducible refine DrawLate.intro [] ?_)
        | (with_reducible refine Cls_and ?_ ?_)
        | (with_reducible exact Cls.self _ _)
        | (with_reducible refine Cls_same ?_)
        | (with_reducible refine Cls_in ?_ ?_)
        | (with_reducible refine Cls_fresh ?_ ?_)
        | (with_reducible refine And.intro (fun h => ?_) (fun h => ?_)) <;> (try (exfalso; omega))
        | (with_reducible refine And.intro (fun h => ?_) ?_) <;> (try (exfalso; omega))
        | ((with_reducible refine and_keep ?_ fun hk => ?_); omega)
        | (simp -dsimp -implicitDefEqProofs [*]))
      exact absurd ⟨‹_›, ‹_›⟩ h1
  · have hN : standN l d t = checkE l := by simp_all [standN]
    have hL : standL l d t = [] := by simp [standL, hN, hc]
    repeat' (first
      | (with_reducible refine Fresh.intro fun b hb => ?_) <;> (try simp -dsimp -implicitDefEqProofs [*] at hb)
      | (with_reducible refine Rets.xcall (check_spec _ _ _) ?_)
      | (with_reducible refine Rets.xsoft (check_spec _ _ _) ?_)
      | (with_reducible refine xlateCall_of (fun _ => check_spec _ _ _) ?_)
      | (with_reducible refine Lit.imm ?_)
      | ((with_reducible refine Grow.intro ?_ fun b cap hb hc1 hc2 => ?_); omega) <;> (try simp -dsimp -implicitDefEqProofs [*] at hb)
      | (with_reducible refine RetView.nil2 ?_)
      | (with_reducible refine RetView.nil1 ?_)
      | (with_reducible refine RetView.loose2 (t := true) ?_)
      | (with_reducible refine RetView.loose1 (t := true) ?_)
      | (with_reducible refine RetView.fz 9 ?_ ?_)
      | (with_reducible refine RetView.same ?_)
      | (with_reducible refine DrawLate.intro [] ?_)
      | (with_reducible refine Cls_and ?_ ?_)
      | (with_reducible exact Cls.self _ _)
      | (with_reducible refine Cls_same ?_)
      | (with_reducible refine Cls_in ?_ ?_)
      | (with_reducible refine Cls_fresh ?_ ?_)
      | (with_reducible refine And.intro (fun h => ?_) (fun h => ?_)) <;> (try (exfalso; omega))
      | (with_reducible refine And.intro (fun h => ?_) ?_) <;> (try (exfalso; omega))
      | ((with_reducible refine and_keep ?_ fun hk => ?_); omega)
      | (simp -dsimp -implicitDefEqProofs [*]))
end Go.Proofs.Ytahdhdgglbcagaa
