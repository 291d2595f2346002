/- Pure values over the model: what a value reads as in a heap whose immutable part is told apart. Definitions and first laws. -/
import Derived.CallsIn
import Derived.OrdersIn
import Derived.DefersIn
import Derived.RecoverIn
import Derived.RangeFuncIn
import Derived.Laws.NewBlocks
import Derived.Laws.Cells
import Derived.Below
namespace Go.Pv

/-- Pure values. 'val v': the very value v. 'any': nothing is known. 'list': a slice whose cells are never written. 'iptr': a pointer into cells that are never written. 'imap': a map that is never written. -/
inductive PV where
  | any
  | val (v : Value)
  | agg (cs : List PV)
  | tuple (vs : List PV)
  | list (tight : Bool) (cs : List PV) (n : Nat)
  | iptr (cs : List PV) (off : Nat)
  | imap (ks : List Value) (vs : List PV)
  | func (fn : Fn) (first captured : List PV)
  | iface (t : TypeId) (v : PV)
  deriving Inhabited

abbrev PV.int (n : Int) : PV := .val (.int .i64 n)
abbrev PV.bool (b : Bool) : PV := .val (.bool b)
abbrev PV.str (s : ByteArray) : PV := .val (.string s)
abbrev PV.ptr (b off : Nat) : PV := .val (.pointer (some ⟨b, off, none⟩))
abbrev PV.own (b off n cap : Nat) : PV := .val (.slice (some ⟨b, off, none⟩) n cap)
abbrev PV.nil : PV := .val (.slice none 0 0)
/-- What a skipped operation leaves. -/
abbrev PV.undef : PV := .val (.tuple #[])

/-- The immutable part of a heap. -/
abbrev Imm := Nat → Option Obj

/-- The cells at an address in immutable memory. -/
def Imm.row (I : Imm) (b off : Nat) (vs : List Value) : Prop :=
  ∃ arr T fz, I b = some (.cells arr T fz) ∧ ∀ j v, vs[j]? = some v → arr[off + j]? = some v

mutual
def vrep (I : Imm) : PV → Value → Prop
  | .any, _ => True
  | .val u, v => v = u
  | .agg cs, v => ∃ vs : List Value, v = .agg vs.toArray ∧ vcells I cs vs
  | .tuple ps, v => ∃ vs : List Value, v = .tuple vs.toArray ∧ vreps I ps vs
  | .list tight cs n, v => ∃ a cap vs, v = .slice a n cap ∧ n ≤ cap ∧ cap ≤ maxLen ∧ (tight = true → cap = n) ∧ vcells I cs vs ∧
      (vs = [] ∨ ∃ b off, a = some ⟨b, off, none⟩ ∧ I.row b off vs)
  | .iptr cs k, v => ∃ b off vs, v = .pointer (some ⟨b, off + k, none⟩) ∧ vcells I cs vs ∧ I.row b off vs
  | .imap ks ps, v => ∃ r es clock, v = .map (some r) ∧ I r = some (.map es clock) ∧ es.toList.map (·.key) = ks ∧ vreps I ps (es.toList.map (·.val))
  | .func fn fs cs, v => ∃ us vs : List Value, v = .func fn us.toArray vs.toArray ∧ vreps I fs us ∧ vreps I cs vs
  | .iface t p, v => ∃ u, v = .iface t u ∧ vrep I p u
def vreps (I : Imm) : List PV → List Value → Prop
  | [], [] => True
  | p :: ps, v :: vs => vrep I p v ∧ vreps I ps vs
  | _, _ => False
def vcells (I : Imm) : List PV → List Value → Prop
  | [], [] => True
  | p :: ps, v :: vs => (vrep I p v ∧ v.oneCell' = true) ∧ vcells I ps vs
  | _, _ => False
end

/-- The same immutable cells and maps. -/
def Imm.dle (I I' : Imm) : Prop := ∀ b o, I b = some o → (∀ ds, o ≠ .deferred ds) → I' b = some o
/-- More immutable memory. -/
def Imm.le (I I' : Imm) : Prop := ∀ b o, I b = some o → I' b = some o
theorem Imm.le_refl (I : Imm) : I.le I := fun _ _ h => h
theorem Imm.le_trans {I J K : Imm} (h : I.le J) (k : J.le K) : I.le K := fun b o hb => k b o (h b o hb)

theorem Imm.le.d {I J : Imm} (h : I.le J) : I.dle J := fun b o hb _ => h b o hb
theorem Imm.row_mono {I I' : Imm} (h : I.dle I') {b off : Nat} {vs : List Value} (hr : I.row b off vs) : I'.row b off vs := by
  obtain ⟨arr, T, fz, h1, h2⟩ := hr
  exact ⟨arr, T, fz, h _ _ h1 (by simp), h2⟩

mutual
theorem vrep_dmono {I I' : Imm} (h : I.dle I') : ∀ (p : PV) (v : Value), vrep I p v → vrep I' p v
  | .any, _, _ => by simp [vrep]
  | .val _, _, hr => by simpa [vrep] using hr
  | .agg cs, v, hr => by
    simp only [vrep] at hr ⊢
    obtain ⟨vs, h1, h2⟩ := hr
    exact ⟨vs, h1, vcells_dmono h cs vs h2⟩
  | .tuple ps, v, hr => by
    simp only [vrep] at hr ⊢
    obtain ⟨vs, h1, h2⟩ := hr
    exact ⟨vs, h1, vreps_dmono h ps vs h2⟩
  | .list tight cs n, v, hr => by
    simp only [vrep] at hr ⊢
    obtain ⟨a, cap, vs, h1, h2, h3, h4, h5, h6⟩ := hr
    exact ⟨a, cap, vs, h1, h2, h3, h4, vcells_dmono h cs vs h5, h6.imp id fun ⟨b, off, e, r⟩ => ⟨b, off, e, Imm.row_mono h r⟩⟩
  | .iptr cs k, v, hr => by
    simp only [vrep] at hr ⊢
    obtain ⟨b, off, vs, h1, h2, h3⟩ := hr
    exact ⟨b, off, vs, h1, vcells_dmono h cs vs h2, Imm.row_mono h h3⟩
  | .imap ks ps, v, hr => by
    simp only [vrep] at hr ⊢
    obtain ⟨r, es, clock, h1, h2, h3, h4⟩ := hr
    exact ⟨r, es, clock, h1, h _ _ h2 (by simp), h3, vreps_dmono h ps _ h4⟩
  | .func fn fs cs, v, hr => by
    simp only [vrep] at hr ⊢
    obtain ⟨us, vs, h1, h2, h3⟩ := hr
    exact ⟨us, vs, h1, vreps_dmono h fs us h2, vreps_dmono h cs vs h3⟩
  | .iface t p, v, hr => by
    simp only [vrep] at hr ⊢
    obtain ⟨u, h1, h2⟩ := hr
    exact ⟨u, h1, vrep_dmono h p u h2⟩
theorem vreps_dmono {I I' : Imm} (h : I.dle I') : ∀ (ps : List PV) (vs : List Value), vreps I ps vs → vreps I' ps vs
  | [], [], _ => by simp [vreps]
  | [], _ :: _, hr => by simp [vreps] at hr
  | _ :: _, [], hr => by simp [vreps] at hr
  | p :: ps, v :: vs, hr => by
    simp only [vreps] at hr ⊢
    exact ⟨vrep_dmono h p v hr.1, vreps_dmono h ps vs hr.2⟩
theorem vcells_dmono {I I' : Imm} (h : I.dle I') : ∀ (ps : List PV) (vs : List Value), vcells I ps vs → vcells I' ps vs
  | [], [], _ => by simp [vcells]
  | [], _ :: _, hr => by simp [vcells] at hr
  | _ :: _, [], hr => by simp [vcells] at hr
  | p :: ps, v :: vs, hr => by
    simp only [vcells] at hr ⊢
    exact ⟨⟨vrep_dmono h p v hr.1.1, hr.1.2⟩, vcells_dmono h ps vs hr.2⟩
end
theorem vrep_mono {I I' : Imm} (h : I.le I') (p : PV) (v : Value) (hr : vrep I p v) : vrep I' p v := vrep_dmono h.d p v hr
theorem vreps_mono {I I' : Imm} (h : I.le I') (ps : List PV) (vs : List Value) (hr : vreps I ps vs) : vreps I' ps vs := vreps_dmono h.d ps vs hr
theorem vcells_mono {I I' : Imm} (h : I.le I') (ps : List PV) (vs : List Value) (hr : vcells I ps vs) : vcells I' ps vs := vcells_dmono h.d ps vs hr

theorem vreps_length {I : Imm} : ∀ {ps : List PV} {vs : List Value}, vreps I ps vs → ps.length = vs.length
  | [], [], _ => rfl
  | [], _ :: _, h => by simp [vreps] at h
  | _ :: _, [], h => by simp [vreps] at h
  | _ :: _, _ :: _, h => by simp only [vreps] at h; simp [vreps_length h.2]
theorem vcells_length {I : Imm} : ∀ {ps : List PV} {vs : List Value}, vcells I ps vs → ps.length = vs.length
  | [], [], _ => rfl
  | [], _ :: _, h => by simp [vcells] at h
  | _ :: _, [], h => by simp [vcells] at h
  | _ :: _, _ :: _, h => by simp only [vcells] at h; simp [vcells_length h.2]
theorem vcells_vreps {I : Imm} : ∀ {ps : List PV} {vs : List Value}, vcells I ps vs → vreps I ps vs
  | [], [], _ => by simp [vreps]
  | [], _ :: _, h => by simp [vcells] at h
  | _ :: _, [], h => by simp [vcells] at h
  | _ :: _, _ :: _, h => by simp only [vcells] at h; simp only [vreps]; exact ⟨h.1.1, vcells_vreps h.2⟩
theorem vcells_one {I : Imm} : ∀ {ps : List PV} {vs : List Value}, vcells I ps vs → ∀ v ∈ vs, v.oneCell' = true
  | [], [], _ => by simp
  | [], _ :: _, h => by simp [vcells] at h
  | _ :: _, [], h => by simp [vcells] at h
  | _ :: _, _ :: _, h => by
    simp only [vcells] at h
    intro v hv
    rcases List.mem_cons.1 hv with rfl | hv
    · exact h.1.2
    · exact vcells_one h.2 v hv
theorem vreps_get {I : Imm} : ∀ {ps : List PV} {vs : List Value}, vreps I ps vs → ∀ {j : Nat} {p : PV}, ps[j]? = some p → ∃ v, vs[j]? = some v ∧ vrep I p v
  | [], [], _, j, p, h => by simp at h
  | [], _ :: _, h, _, _, _ => by simp [vreps] at h
  | _ :: _, [], h, _, _, _ => by simp [vreps] at h
  | q :: ps, u :: vs, h, j, p, hj => by
    simp only [vreps] at h
    cases j with
    | zero => simp at hj; subst hj; exact ⟨u, by simp, h.1⟩
    | succ j => simpa using vreps_get h.2 (j := j) (by simpa using hj)
theorem vcells_get {I : Imm} : ∀ {ps : List PV} {vs : List Value}, vcells I ps vs → ∀ {j : Nat} {p : PV}, ps[j]? = some p → ∃ v, vs[j]? = some v ∧ vrep I p v ∧ v.oneCell' = true
  | [], [], _, j, p, h => by simp at h
  | [], _ :: _, h, _, _, _ => by simp [vcells] at h
  | _ :: _, [], h, _, _, _ => by simp [vcells] at h
  | q :: ps, u :: vs, h, j, p, hj => by
    simp only [vcells] at h
    cases j with
    | zero => simp at hj; subst hj; exact ⟨u, by simp, h.1.1, h.1.2⟩
    | succ j => simpa using vcells_get h.2 (j := j) (by simpa using hj)
theorem vcells_take {I : Imm} : ∀ {ps : List PV} {vs : List Value} (k : Nat), vcells I ps vs → vcells I (ps.take k) (vs.take k)
  | [], [], k, _ => by simp [vcells]
  | [], _ :: _, _, h => by simp [vcells] at h
  | _ :: _, [], _, h => by simp [vcells] at h
  | _ :: _, _ :: _, 0, _ => by simp [vcells]
  | _ :: _, _ :: _, k + 1, h => by simp only [vcells] at h; simp only [List.take_succ_cons, vcells]; exact ⟨h.1, vcells_take k h.2⟩
theorem vcells_drop {I : Imm} : ∀ {ps : List PV} {vs : List Value} (k : Nat), vcells I ps vs → vcells I (ps.drop k) (vs.drop k)
  | [], [], k, _ => by simp [vcells]
  | [], _ :: _, _, h => by simp [vcells] at h
  | _ :: _, [], _, h => by simp [vcells] at h
  | _ :: _, _ :: _, 0, h => by simpa using h
  | _ :: _, _ :: _, k + 1, h => by simp only [vcells] at h; simpa using vcells_drop k h.2
theorem vcells_append {I : Imm} : ∀ {ps qs : List PV} {vs us : List Value}, vcells I ps vs → vcells I qs us → vcells I (ps ++ qs) (vs ++ us)
  | [], _, [], _, _, h => by simpa using h
  | [], _, _ :: _, _, h, _ => by simp [vcells] at h
  | _ :: _, _, [], _, h, _ => by simp [vcells] at h
  | _ :: _, _, _ :: _, _, h, k => by simp only [vcells] at h; simp only [List.cons_append, vcells]; exact ⟨h.1, vcells_append h.2 k⟩
theorem vreps_append {I : Imm} : ∀ {ps qs : List PV} {vs us : List Value}, vreps I ps vs → vreps I qs us → vreps I (ps ++ qs) (vs ++ us)
  | [], _, [], _, _, h => by simpa using h
  | [], _, _ :: _, _, h, _ => by simp [vreps] at h
  | _ :: _, _, [], _, h, _ => by simp [vreps] at h
  | _ :: _, _, _ :: _, _, h, k => by simp only [vreps] at h; simp only [List.cons_append, vreps]; exact ⟨h.1, vreps_append h.2 k⟩
theorem vcells_set {I : Imm} {p : PV} {v : Value} (hp : vrep I p v) (h1 : v.oneCell' = true) : ∀ {ps : List PV} {vs : List Value} (j : Nat), vcells I ps vs → vcells I (ps.set j p) (vs.set j v)
  | [], [], k, _ => by simp [vcells]
  | [], _ :: _, _, h => by simp [vcells] at h
  | _ :: _, [], _, h => by simp [vcells] at h
  | _ :: _, _ :: _, 0, h => by simp only [vcells] at h; simp only [List.set_cons_zero, vcells]; exact ⟨⟨hp, h1⟩, h.2⟩
  | _ :: _, _ :: _, k + 1, h => by simp only [vcells] at h; simp only [List.set_cons_succ, vcells]; exact ⟨h.1, vcells_set hp h1 k h.2⟩

/-- Is what a pure value stands for one cell? -/
def PV.one : PV → Bool
  | .val v => v.oneCell'
  | .list .. | .iptr .. | .imap .. | .func .. | .iface .. => true
  | .any | .agg _ | .tuple _ => false
theorem PV.one_spec {I : Imm} {p : PV} {v : Value} (h : vrep I p v) (h1 : p.one = true) : v.oneCell' = true := by
  cases p <;> simp only [vrep, PV.one] at h h1 <;> try (cases h1; done)
  · exact h ▸ h1
  · obtain ⟨_, _, _, rfl, _⟩ := h; rfl
  · obtain ⟨_, _, _, rfl, _⟩ := h; rfl
  · obtain ⟨_, _, _, rfl, _⟩ := h; rfl
  · obtain ⟨_, _, rfl, _⟩ := h; rfl
  · obtain ⟨_, rfl, _⟩ := h; rfl

/-- The cells of a pure value. -/
def PV.cells : PV → Option (List PV)
  | .agg cs => some cs
  | p => if p.one then some [p] else none
theorem PV.cells_spec {I : Imm} {p : PV} {v : Value} {cs : List PV} (h : vrep I p v) (hc : p.cells = some cs) : vcells I cs v.cells.toList := by
  cases p with
  | agg ds =>
    simp only [PV.cells, Option.some.injEq] at hc
    subst hc
    simp only [vrep] at h
    obtain ⟨vs, rfl, h⟩ := h
    simpa [Value.cells] using h
  | _ =>
    simp only [PV.cells] at hc
    split at hc
    · rename_i h1
      simp only [Option.some.injEq] at hc
      subst hc
      have := PV.one_spec h h1
      have hv : v.cells = #[v] := by cases v <;> first | rfl | (simp [Value.oneCell'] at this)
      rw [hv]
      simp only [vcells, and_true]
      exact ⟨h, this⟩
    · cases hc

/-! ### Objects that may be written -/
/-- What temporaries read as. -/
abbrev Env := List (Nat × PV)
def eget : Env → Nat → PV
  | [], _ => .any
  | (t, p) :: e, u => if t = u then p else eget e u
/-- What stays of a range over a function: how many temporaries, those that a round's values go to, the code of a round. -/
structure LoopKey where
  N : Nat
  params : Array Tmp
  assign : Code
  body : Code
inductive PObj where
  | arr (T : TypeId) (cs : List PV)
  | map (ks : List Value) (vs : List PV)
  | other (o : Obj)
  /-- a range over a function -/
  | loop (key : LoopKey) (e : Env) (state : LoopState) (pend : Option Code)
  /-- a map whose entries' marks are known: one that is ranged over -/
  | mapB (ks : List Value) (vs : List PV) (bs : List Nat) (clock : Nat)
  /-- an iterator over such a map: which entries it has given -/
  | iter (m : Nat) (bs : List Nat) (clock : Nat) (vis : List Nat)
  deriving Inhabited

abbrev Store := List (Nat × PObj)

def sget : Store → Nat → Option PObj
  | [], _ => none
  | (b, o) :: st, c => if b = c then some o else sget st c
def sset : Store → Nat → PObj → Store
  | [], c, o => [(c, o)]
  | (b, p) :: st, c, o => if b = c then (c, o) :: st else (b, p) :: sset st c o
theorem sget_sset (c : Nat) (o : PObj) : ∀ (st : Store) (d : Nat), sget (sset st c o) d = if c = d then some o else sget st d
  | [], d => by simp [sset, sget]
  | (b, p) :: st, d => by
    simp only [sset]
    by_cases h : b = c
    · subst h; simp only [if_true, sget]; split <;> rfl
    · simp only [h, if_false, sget, sget_sset c o st d]
      by_cases hd : b = d
      · subst hd; simp [show ¬ c = b from fun e => h e.symm]
      · simp [hd]
/-- A number past all of a store's. -/
def sfresh : Store → Nat → Prop
  | [], _ => True
  | (b, _) :: st, c => b < c ∧ sfresh st c
/-- A block that the store does not name. -/
def snew : Store → Nat → Prop
  | [], _ => True
  | (b, _) :: st, c => (¬ b = c ∧ ¬ c = b) ∧ snew st c
theorem snew_of : ∀ {st : Store} {c : Nat}, sfresh st c → snew st c
  | [], _, _ => trivial
  | (b, _) :: st, c, h => by
    simp only [sfresh] at h
    exact ⟨⟨by omega, by omega⟩, snew_of h.2⟩
theorem snew_get : ∀ {st : Store} {c : Nat}, snew st c → sget st c = none
  | [], _, _ => rfl
  | (b, _) :: st, c, h => by
    simp only [snew] at h
    simp only [sget, if_neg h.1.1]
    exact snew_get h.2
theorem sfresh_get : ∀ {st : Store} {c : Nat}, sfresh st c → sget st c = none
  | [], _, _ => rfl
  | (b, _) :: st, c, h => by
    simp only [sfresh] at h
    simp only [sget, if_neg (show ¬ b = c by omega)]
    exact sfresh_get h.2
theorem sfresh_mono : ∀ {st : Store} {c d : Nat}, sfresh st c → c ≤ d → sfresh st d
  | [], _, _, _, _ => trivial
  | (b, _) :: st, c, d, h, hd => ⟨by have := h.1; omega, sfresh_mono h.2 hd⟩
theorem sfresh_sset {c : Nat} {o : PObj} {d : Nat} (hd : c < d) : ∀ {st : Store}, sfresh st d → sfresh (sset st c o) d
  | [], _ => ⟨hd, trivial⟩
  | (b, p) :: st, h => by
    simp only [sset]
    split
    · exact ⟨hd, h.2⟩
    · exact ⟨h.1, sfresh_sset hd h.2⟩

def orep (I : Imm) : PObj → Obj → Prop
  | .arr T cs, r => ∃ vs : List Value, r = .cells vs.toArray T (0, 0) ∧ vcells I cs vs
  | .map ks ps, r => ∃ es clock, r = .map es clock ∧ es.toList.map (·.key) = ks ∧ vreps I ps (es.toList.map (·.val)) ∧
      (es.toList.map (·.born)).Nodup ∧ ∀ e ∈ es, e.born < clock
  | .other o, r => r = o
  | .loop key e state pend, r => ∃ fn tmps D, r = .loop { state, pending := pend, fn, tmps, params := key.params, assign := key.assign, body := key.body, defers := D } ∧ tmps.size = key.N ∧ ∀ t, vrep I (eget e t) (tmps.getD t (.tuple #[]))
  | .mapB ks ps bs clock, r => ∃ es, r = .map es clock ∧ es.toList.map (·.key) = ks ∧ vreps I ps (es.toList.map (·.val)) ∧ es.toList.map (·.born) = bs
  | .iter m bs clock vis, r => r = .mapIter (some m) clock (vis.map fun j => bs.getD j 0).toArray clock
theorem orep_dmono {I I' : Imm} (h : I.dle I') {o : PObj} {r : Obj} (hr : orep I o r) : orep I' o r := by
  cases o with
  | arr T cs => obtain ⟨vs, h1, h2⟩ := hr; exact ⟨vs, h1, vcells_dmono h _ _ h2⟩
  | map ks ps => obtain ⟨es, clock, h1, h2, h3, h4⟩ := hr; exact ⟨es, clock, h1, h2, vreps_dmono h _ _ h3, h4⟩
  | other o => exact hr
  | loop key e state pend => obtain ⟨fn, tmps, D, h1, h2, h3⟩ := hr; exact ⟨fn, tmps, D, h1, h2, fun t => vrep_dmono h _ _ (h3 t)⟩
  | mapB ks ps bs clock => obtain ⟨es, h1, h2, h3, h4⟩ := hr; exact ⟨es, h1, h2, vreps_dmono h _ _ h3, h4⟩
  | iter m bs clock vis => exact hr
theorem orep_mono {I I' : Imm} (h : I.le I') {o : PObj} {r : Obj} (hr : orep I o r) : orep I' o r := orep_dmono h.d hr

/-- A heap that holds the immutable part and the store. -/
structure SRep (I : Imm) (st : Store) (w : World) : Prop where
  imm : ∀ b o, I b = some o → w.heap[b]? = some o
  objs : ∀ b o, sget st b = some o → I b = none ∧ ∃ r, w.heap[b]? = some r ∧ orep I o r
  keys : sfresh st w.heap.size

theorem SRep.imm_lt {I : Imm} {st : Store} {w : World} (h : SRep I st w) {b : Nat} {o : Obj} (hb : I b = some o) : b < w.heap.size :=
  (Array.getElem?_eq_some_iff.1 (h.imm b o hb)).1
theorem SRep.obj_lt {I : Imm} {st : Store} {w : World} (h : SRep I st w) {b : Nat} {o : PObj} (hb : sget st b = some o) : b < w.heap.size := by
  obtain ⟨_, r, hr, _⟩ := h.objs b o hb
  exact (Array.getElem?_eq_some_iff.1 hr).1
theorem SRep.fresh_none {I : Imm} {st : Store} {w : World} (h : SRep I st w) : I w.heap.size = none := by
  cases hI : I w.heap.size with
  | none => rfl
  | some o => have := h.imm_lt hI; omega

/-- What stays of a world whatever a call does: all but the heap and the draws. -/
structure Calm (w w' : World) : Prop where
  os : w'.os = w.os
  tape : w'.tape = w.tape
  output : w'.output = w.output
  size : w.heap.size ≤ w'.heap.size
theorem Calm.refl (w : World) : Calm w w := ⟨rfl, rfl, rfl, Nat.le_refl _⟩
theorem Calm.trans {a b c : World} (h : Calm a b) (k : Calm b c) : Calm a c := ⟨k.os.trans h.os, k.tape.trans h.tape, k.output.trans h.output, Nat.le_trans h.size k.size⟩

theorem SRep.drew {I : Imm} {st : Store} {w : World} (h : SRep I st w) : SRep I st { w with drawn := w.drawn + 1 } := ⟨h.imm, h.objs, h.keys⟩

/-- A new object in the store. -/
theorem SRep.alloc {I : Imm} {st : Store} {w : World} (h : SRep I st w) {o : PObj} {r : Obj} (hr : orep I o r) : SRep I ((w.heap.size, o) :: st) (w.alloc r) := by
  refine ⟨fun b o' hb => ?_, fun b o' hb => ?_, ?_⟩
  · have := h.imm_lt hb
    show (w.heap.push r)[b]? = _
    rw [Array.getElem?_push, if_neg (by omega)]
    exact h.imm b o' hb
  · simp only [sget] at hb
    split at hb
    · rename_i e
      subst e
      cases hb
      refine ⟨h.fresh_none, r, ?_, hr⟩
      show (w.heap.push r)[w.heap.size]? = _
      simp
    · obtain ⟨h1, r', h2, h3⟩ := h.objs b o' hb
      refine ⟨h1, r', ?_, h3⟩
      have := h.obj_lt hb
      show (w.heap.push r)[b]? = _
      rw [Array.getElem?_push, if_neg (by omega)]
      exact h2
  · refine ⟨?_, ?_⟩
    · rw [World.size_alloc]; omega
    · exact sfresh_mono h.keys (by rw [World.size_alloc]; omega)

/-- A new object in the immutable part. -/
def Imm.add (I : Imm) (b : Nat) (o : Obj) : Imm := fun c => if c = b then some o else I c
theorem SRep.le_add {I : Imm} {st : Store} {w : World} (h : SRep I st w) (r : Obj) : I.le (I.add w.heap.size r) := by
  intro b o hb
  have := h.imm_lt hb
  unfold Imm.add
  rw [if_neg (by omega)]
  exact hb
theorem SRep.allocImm {I : Imm} {st : Store} {w : World} (h : SRep I st w) (r : Obj) : SRep (I.add w.heap.size r) st (w.alloc r) := by
  refine ⟨fun b o' hb => ?_, fun b o' hb => ?_, ?_⟩
  · unfold Imm.add at hb
    show (w.heap.push r)[b]? = _
    split at hb
    · rename_i e; subst e; cases hb; simp
    · have := h.imm_lt hb
      rw [Array.getElem?_push, if_neg (by omega)]
      exact h.imm b o' hb
  · obtain ⟨h1, r', h2, h3⟩ := h.objs b o' hb
    have := h.obj_lt hb
    refine ⟨?_, r', ?_, orep_mono (h.le_add r) h3⟩
    · unfold Imm.add; rw [if_neg (by omega)]; exact h1
    · show (w.heap.push r)[b]? = _
      rw [Array.getElem?_push, if_neg (by omega)]
      exact h2
  · exact sfresh_mono h.keys (by rw [World.size_alloc]; omega)

/-- An object of the store is written. -/
theorem SRep.put {I : Imm} {st : Store} {w w' : World} (h : SRep I st w) {b : Nat} {o o' : PObj} {r' : Obj} (hb : sget st b = some o) (hr : orep I o' r')
    (hs : w'.heap.size = w.heap.size) (hw : w'.heap[b]? = some r') (ho : ∀ c, c ≠ b → w'.heap[c]? = w.heap[c]?) : SRep I (sset st b o') w' := by
  refine ⟨fun c x hc => ?_, fun c x hc => ?_, ?_⟩
  · have hne : c ≠ b := by
      rintro rfl
      have := (h.objs c o hb).1
      rw [this] at hc; cases hc
    rw [ho c hne]; exact h.imm c x hc
  · rw [sget_sset] at hc
    split at hc
    · rename_i e; subst e; cases hc
      exact ⟨(h.objs b o hb).1, r', hw, hr⟩
    · rename_i e
      obtain ⟨h1, r, h2, h3⟩ := h.objs c x hc
      exact ⟨h1, r, by rw [ho c (fun e' => e e'.symm)]; exact h2, h3⟩
  · rw [hs]; exact sfresh_sset (h.obj_lt hb) h.keys

end Go.Pv
