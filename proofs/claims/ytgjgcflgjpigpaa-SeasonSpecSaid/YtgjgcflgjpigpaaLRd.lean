/- Rules: functions that defer calls, functions that recover, calls that panic. -/
import Derived.Test.YtgjgcflgjpigpaaLFr
import Derived.Test.YtgjgcflgjpigpaaLSf
import Derived.Handed
import Derived.LaidMore
import Derived.Test.YtgjgcflgjpigpaaLBr
namespace Go.Pv
universe u
/-- Over the statements of a body that defers calls. -/
def xbody (P : Program) (pn : List Nat) (b : MBody) (E0 : Env) (ds : List (FuncId × List PV)) (K : Env → List (FuncId × List PV) → MPost) (s : PS) (_ : Tok (b, K) := ⟨⟩) : Prop := mbwp P pn b E0 ds K s
def xleave (P : Program) (ds : List (FuncId × List PV)) (u : PMode) (st : Store) (rs : List MRes) (e : Env) (R E : PV → Store → Prop) (_ : Tok (R, E) := ⟨⟩) : Prop := pleave P ds u st (pfin rs e R E)
def xretD (P : Program) (rs : List MRes) (R E : PV → Store → Prop) (E0 : Env) (ds : List (FuncId × List PV)) (e : MExit) (s : PS) (_ : Tok (R, E) := ⟨⟩) : Prop := retPostD P rs R E E0 ds e s
/-- A deferred call. -/
def xdef (P : Program) (g : FuncId) (ps : List PV) (u : PMode) (st : Store) (Q : PMode → Store → Prop) (_ : Tok Q := ⟨⟩) : Prop := PDef P g ps u st Q
section
variable (P : Program) (pn : List Nat) (E0 : Env) (ds : List (FuncId × List PV)) (K : Env → List (FuncId × List PV) → MPost) (s : PS) (e : Env) (st : Store) (rs : List MRes) (R E : PV → Store → Prop)
@[simp ↓] theorem xbody_done : xbody P pn .done E0 ds K s = K E0 ds .normal s := rfl
@[simp ↓] theorem xbody_pre (c : MCode) (b : MBody) : xbody P pn (.pre [] c b) E0 ds K s = xwp P c (fun ex s' => xthen (fun s' => xbody P pn b E0 ds K s') (fun ex s' => K E0 ds ex s') ex s') s := rfl
@[simp ↓] theorem xbody_preX (t : Nat) (ts : List Nat) (c : MCode) (b : MBody) : xbody P pn (.pre (t :: ts) c b) E0 ds K ⟨e, st⟩ = force (epick (t :: ts) e ++ E0) fun E1 => xwp P c (fun ex s' => xthen (fun s' => xbody P pn b E0 ds K s') (fun ex s' => K E1 ds ex s') ex s') ⟨e, st⟩ := by
  simp only [force_eq]; rfl
@[simp ↓] theorem xbody_push (f : MX) (args : List MX) (b : MBody) : xbody P pn (.push f args b) E0 ds K ⟨e, st⟩ = onSome (meval e f).func? fun q => Enters P q.1 ∧ force (epick pn e) fun E1 => xbody P pn b E1 ((q.1, q.2.1 ++ args.map (meval e) ++ q.2.2) :: ds) K ⟨e, st⟩ := by
  simp only [xbody, mbwp, force_eq]
  split
  · rename_i g fs cs h
    rw [h]
    simp only [func?_func, onSome_some]
  · rename_i h
    simp only [onSome, eq_iff_iff, false_iff]
    rintro ⟨⟨g, fs, cs⟩, h2, -⟩
    unfold PV.func? at h2
    split at h2
    · rename_i h3; exact h _ _ _ h3
    · cases h2
@[simp ↓] theorem xbody_pushR (is : List MInst) (f : MX) (args : List MX) (b : MBody) : xbody P pn (.pushR is f args b) E0 ds K ⟨e, st⟩ = xops P is ⟨e, st⟩ (fun s => onSome (meval s.env f).func? fun q => Enters P q.1 ∧ force (epick pn s.env) fun E1 => xbody P pn b E1 ((q.1, q.2.1 ++ args.map (meval s.env) ++ q.2.2) :: ds) K s) (fun _ _ => False) := by
  simp only [xbody, mbwp, xops, force_eq]
  refine congrArg (fun k => mops P is ⟨e, st⟩ k fun _ _ => False) ?_
  funext s
  split
  · rename_i g fs cs h
    rw [h]
    simp only [func?_func, onSome_some]
  · rename_i h
    simp only [onSome, eq_iff_iff, false_iff]
    rintro ⟨⟨g, fs, cs⟩, h2, -⟩
    unfold PV.func? at h2
    split at h2
    · rename_i h3; exact h _ _ _ h3
    · cases h2
@[simp ↓] theorem xretD_normal : xretD P rs R E E0 ds .normal ⟨e, st⟩ = xleave P ds .returning st rs e R E := rfl
@[simp ↓] theorem xretD_ret : xretD P rs R E E0 ds .ret ⟨e, st⟩ = xleave P ds .returning st rs e R E := rfl
@[simp ↓] theorem xretD_panic (p : PV) : xretD P rs R E E0 ds (.panic p) ⟨e, st⟩ = xleave P ds (.panicking p) st rs E0 R E := rfl
@[simp ↓] theorem xretD_exit (id : Nat) : xretD P rs R E E0 ds (.exit id) s = False := rfl
@[simp ↓] theorem xleave_ret : xleave P [] .returning st rs e R E = xres ⟨e, st⟩ rs fun ps => R (tuplePV ps) st := rfl
@[simp ↓] theorem xleave_panic (p : PV) : xleave P [] (.panicking p) st rs e R E = E p st := rfl
@[simp ↓] theorem xleave_cons (g : FuncId) (ps : List PV) (u : PMode) : xleave P ((g, ps) :: ds) u st rs e R E = xdef P g ps u st fun u' st' => xleave P ds u' st' rs e R E := rfl
end
@[congr] theorem xdef_congr {P : Program} {g : FuncId} {ps ps' : List PV} {u : PMode} {st st' : Store} {Q : PMode → Store → Prop} (h1 : ps = ps') (h2 : st = st') : xdef P g ps u st Q = xdef P g ps' u st' Q := by subst h1; subst h2; rfl
/-- A deferred call that leaves this mode and this store. -/
def Defs (P : Program) (g : FuncId) (ps : List PV) (u : PMode) (st : Store) (u' : PMode) (st' : Store) : Prop := PDef P g ps u st fun v s => v = u' ∧ s = st'
theorem PDef.mono {P : Program} {g : FuncId} {ps : List PV} {u : PMode} {st : Store} {Q Q' : PMode → Store → Prop} (h : PDef P g ps u st Q) (hq : ∀ u s, Q u s → Q' u s) : PDef P g ps u st Q' := by
  obtain ⟨h1, h2⟩ := h
  refine ⟨h1, fun I w vs fu a b c => ?_⟩
  obtain ⟨k1, k2⟩ := h2 I w vs fu a b c
  refine ⟨k1, fun cc cs hu hr => ?_⟩
  obtain ⟨en, u', w2, fr, ⟨hR1, I', st', i1, i2, i3, u'', i4, i5⟩, rest⟩ := k2 cc cs hu hr
  exact ⟨en, u', w2, fr, ⟨hR1, I', st', i1, i2, i3, u'', i4, hq _ _ i5⟩, rest⟩
theorem Defs.xdef {P : Program} {g : FuncId} {ps : List PV} {u u' : PMode} {st st' : Store} (h : Defs P g ps u st u' st') {Q : PMode → Store → Prop} (hk : Q u' st') : xdef P g ps u st Q :=
  PDef.mono h fun v s ⟨h1, h2⟩ => by subst h1; subst h2; exact hk
theorem PDef.le {P : Program} {g : FuncId} {ps : List PV} {u : PMode} {st st' : Store} {Q : PMode → Store → Prop} (hs : StLe st' st) (h : PDef P g ps u st' Q) : PDef P g ps u st Q :=
  ⟨h.enters, fun I w vs fu a b c => h.out I w vs fu a (b.le hs) c⟩
/-- A contract of a function that defers calls, from the walk; what is behind a return, or a panic, may be seen otherwise. -/
theorem HasD.walk {P : Program} (hmix : P.follows .mixedOrders = true) {g : FuncId} {m : MDFunc} (h : HasD P g m) {nt np : Nat} {pn : List Nat} {rs : List MRes} {b : MBody} (hm : m = ⟨nt, np, pn, rs, b⟩) {ps : List PV} {st : Store} {Q : PEnd → Store → Prop} (hlen : ps.length = np)
    {R E : PV → Store → Prop} (hR : ∀ p st, R p st → RetView .ret p st Q) (hE : ∀ p st, E p st → RetView .panic p st Q)
    (hw : xbody P pn b [] [] (fun E0 ds ex s => xretD P rs R E E0 ds ex s) ⟨initEnv 0 ps, st⟩) : PCalls P g ps st Q := by
  subst hm
  exact h.calls hmix hlen hR hE hw
theorem HasD.pure {P : Program} (hmix : P.follows .mixedOrders = true) {g : FuncId} {m : MDFunc} (h : HasD P g m) {nt np : Nat} {pn : List Nat} {rs : List MRes} {b : MBody} (hm : m = ⟨nt, np, pn, rs, b⟩) {ps : List PV} {st : Store} {p : PV} (hlen : ps.length = np)
    (hw : xbody P pn b [] [] (fun E0 ds ex s => xretD P rs (fun q st' => q = p ∧ Over st st') (fun _ _ => False) E0 ds ex s) ⟨initEnv 0 ps, st⟩) : Rets P g ps st p :=
  h.walk hmix hm hlen (fun _ _ ⟨h1, h2⟩ => .drop h2.le ⟨by rw [h1], rfl⟩) (fun _ _ h => h.elim) hw
theorem HasD.view {P : Program} (hmix : P.follows .mixedOrders = true) {g : FuncId} {m : MDFunc} (h : HasD P g m) {nt np : Nat} {pn : List Nat} {rs : List MRes} {b : MBody} (hm : m = ⟨nt, np, pn, rs, b⟩) {ps : List PV} {st : Store} {Q : PEnd → Store → Prop} (hlen : ps.length = np)
    (hw : xbody P pn b [] [] (fun E0 ds ex s => xretD P rs (fun q st' => RetView .ret q st' Q) (fun q st' => RetView .panic q st' Q) E0 ds ex s) ⟨initEnv 0 ps, st⟩) : PCalls P g ps st Q :=
  h.walk hmix hm hlen (R := fun q st' => RetView .ret q st' Q) (E := fun q st' => RetView .panic q st' Q) (fun _ _ h => h) (fun _ _ h => h) hw
/-- What a function that recovers leaves. -/
theorem HasR.walk {P : Program} (hmix : P.follows .mixedOrders = true) {g : FuncId} {m : MRFunc} (h : HasR P g m) {nt np d : Nat} {rs : List MRes} {c : MCode} (hm : m = ⟨nt, np, d, rs, c⟩) {ps : List PV} {u : PMode} {st : Store} {Q : PMode → Store → Prop} (hlen : ps.length = np)
    (hw : xwp P c (fun ex s => xret rs (fun _ st' => Q .returning st') (fun _ _ => False) ex s) ⟨eput (initEnv 0 ps) (some d) (recovered u), st⟩) : PDef P g ps u st Q := by
  subst hm
  exact h.pdef hmix hlen hw
theorem HasR.defs {P : Program} (hmix : P.follows .mixedOrders = true) {g : FuncId} {m : MRFunc} (h : HasR P g m) {nt np d : Nat} {rs : List MRes} {c : MCode} (hm : m = ⟨nt, np, d, rs, c⟩) {ps : List PV} {u : PMode} {st st' : Store} (hlen : ps.length = np)
    (hw : xwp P c (fun ex s => xret rs (fun _ s => s = st') (fun _ _ => False) ex s) ⟨eput (initEnv 0 ps) (some d) (recovered u), st⟩) : Defs P g ps u st .returning st' :=
  PDef.mono (h.walk hmix hm hlen (Q := fun v s => v = .returning ∧ s = st') (by
    have e : (fun (_ : PV) (s : Store) => PMode.returning = .returning ∧ s = st') = fun _ s => s = st' := by funext _ s; simp
    rw [e]; exact hw)) fun _ _ h => h
@[simp] theorem recovered_ret : recovered .returning = .val .nilIface := rfl
@[simp] theorem recovered_panic (p : PV) : recovered (.panicking p) = p := rfl
theorem HasR.enters {P : Program} {g : FuncId} {m : MRFunc} (h : HasR P g m) : Enters P g := by
  obtain ⟨fn, h1, h2, h3⟩ := h
  refine ⟨fn, h1, h2, ?_⟩
  unfold convRFunc at h3
  split at h3
  · rename_i c hc; rw [hc]; rfl
  · cases h3
theorem HasD.enters {P : Program} {g : FuncId} {m : MDFunc} (h : HasD P g m) : Enters P g := by
  obtain ⟨fn, h1, h2, h3⟩ := h
  refine ⟨fn, h1, h2, ?_⟩
  unfold convDFunc at h3
  split at h3
  · rename_i c hc; rw [hc]; rfl
  · cases h3
@[simp] theorem xsliceArr_o3 (n k b off : Nat) (l h : Int) (K : PV → Prop) : xsliceArr n k (.val (.pointer (some ⟨b, off, none⟩))) (some l) (some h) none K = (0 ≤ h ∧ h ≤ n ∧ 0 ≤ l ∧ l ≤ h ∧ (l = n → K (.list true [] 0)) ∧ (l < n → K (.own b (off + l.toNat * k) (h.toNat - l.toNat) (n - l.toNat)))) := by
  simp only [xsliceArr, sliceArrPV, ownSlice]
  simp
/-! ### Late reads of a row whose further cells are written -/
/-- The stores that hold what another one holds, but for the cells from n on of one row. -/
def ClsU (st0 : Store) (w : Nat) (T : TypeId) (W : List PV) (n : Nat) (st : Store) : Prop := Cls st0 [w] st ∧ ∃ W', sget st w = some (.arr T W') ∧ ∀ j, j < n → W'[j]? = W[j]?
theorem ClsU.self {st0 : Store} {w : Nat} {T : TypeId} {W : List PV} {n : Nat} (h : sget st0 w = some (.arr T W)) : ClsU st0 w T W n st0 := ⟨Cls.self _ _, W, h, fun _ _ => rfl⟩
@[simp] theorem ClsU_self {st0 : Store} {w : Nat} {T : TypeId} {W : List PV} {n : Nat} : ClsU ((w, .arr T W) :: st0) w T W n ((w, .arr T W) :: st0) = True := eq_true (ClsU.self (by simp))
theorem ClsU.put {st0 : Store} {w : Nat} {T : TypeId} {W W' : List PV} {n : Nat} (h : ∀ j, j < n → W'[j]? = W[j]?) : ClsU ((w, .arr T W) :: st0) w T W n ((w, .arr T W') :: st0) :=
  ⟨Cls_in (by simp) (Cls.self _ _), W', by simp, h⟩
@[simp] theorem xlateLoad_U {st0 : Store} {w : Nat} {T : TypeId} {W : List PV} {n off : Nat} {K : PV → Prop} (hn : off < n) : xlateLoad (ClsU ((w, .arr T W) :: st0) w T W n) 1 false (.val (.pointer (some ⟨w, off, none⟩))) K = onSome (W[off]?) K := by
  have key : ∀ st, ClsU ((w, .arr T W) :: st0) w T W n st → ∀ K' : PV → Prop, mval (.load 1 false (.const (.ptr w off))) (meval []) st K' ↔ onSome (W[off]?) K' := fun st hst K' => by
    obtain ⟨-, W', h1, h2⟩ := hst
    have h3 := h2 off hn
    simp [mval, rowAt?, h1, h3, onSome]
  have h0 : ClsU ((w, .arr T W) :: st0) w T W n ((w, .arr T W) :: st0) := ClsU.self (by simp)
  apply propext
  constructor
  · rintro ⟨q, h1, h2⟩
    have := (key _ h0 _).1 (h1 _ h0)
    obtain ⟨a, h3, rfl⟩ := this
    exact ⟨a, h3, h2⟩
  · rintro ⟨a, h3, h4⟩
    exact ⟨a, fun st hst => (key st hst _).2 ⟨a, h3, rfl⟩, h4⟩
/-- Called so, the function panics with p, and the store is as it was. -/
def Panics (P : Program) (g : FuncId) (ps : List PV) (st : Store) (p : PV) : Prop := PCalls P g ps st fun e s => e = .panic p ∧ s = st
theorem Panics.xcall {P : Program} {g : FuncId} {ps : List PV} {st : Store} {p : PV} (h : Panics P g ps st p) {Q : PEnd → Store → Prop} (hk : Q (.panic p) st) : xcall P g ps st Q :=
  PCalls.mono h fun e s ⟨h1, h2⟩ => by subst h1; subst h2; exact hk
end Go.Pv
/- Package variables that the program never writes: a row's own start store; arguments opened beside them. -/
namespace Go.Pv
open Go.ChangeShapes Go.WideShapes Go.Deep Go.RowKit
/-- Variables: block, type, cells. -/
abbrev Glob := List (Nat × TypeId × List Value)
def globSt : Glob → Store
  | [] => []
  | (b, T, us) :: gl => (b, .arr T (us.map .val)) :: globSt gl
/-- The heap but these blocks. -/
def immG (w : World) (gl : Glob) : Imm := fun b => if gl.any (fun g => g.1 == b) then none else w.heap[b]?
def Glob.In (gl : Glob) (w : World) : Prop := ∀ b T us, (b, T, us) ∈ gl → w.heap[b]? = some (.cells us.toArray T (0, 0)) ∧ ∀ v ∈ us, v.oneCell' = true
theorem globSt_mem : ∀ {gl : Glob} {b : Nat} {o : PObj}, sget (globSt gl) b = some o → ∃ T us, (b, T, us) ∈ gl ∧ o = .arr T (us.map .val)
  | [], _, _, h => by simp [globSt] at h
  | (c, T, us) :: gl, b, o, h => by
    simp only [globSt, sget] at h
    split at h
    · rename_i e
      subst e
      cases h
      exact ⟨T, us, by simp, rfl⟩
    · obtain ⟨T', us', h1, h2⟩ := globSt_mem h
      exact ⟨T', us', by simp [h1], h2⟩
theorem vcells_vals (I : Imm) : ∀ us : List Value, (∀ v ∈ us, v.oneCell' = true) → vcells I (us.map .val) us
  | [], _ => by simp [vcells]
  | u :: us, h => by
    simp only [List.map_cons, vcells]
    exact ⟨⟨by simp [vrep], h u (by simp)⟩, vcells_vals I us fun v hv => h v (by simp [hv])⟩
theorem vals_of_vcells {I : Imm} : ∀ {us vs : List Value}, vcells I (us.map .val) vs → vs = us
  | [], [], _ => rfl
  | [], _ :: _, h => by simp [vcells] at h
  | _ :: _, [], h => by simp [vcells] at h
  | u :: us, v :: vs, h => by
    simp only [List.map_cons, vcells, vrep] at h
    obtain ⟨⟨rfl, -⟩, h2⟩ := h
    rw [vals_of_vcells h2]
theorem glob_keys : ∀ {gl : Glob} {n : Nat}, (∀ b T us, (b, T, us) ∈ gl → b < n) → sfresh (globSt gl) n
  | [], _, _ => trivial
  | (c, T, us) :: gl, n, h => ⟨h c T us (by simp), glob_keys fun b T us hm => h b T us (by simp [hm])⟩
theorem srep_glob {w : World} {gl : Glob} (h : gl.In w) : SRep (immG w gl) (globSt gl) w := by
  refine ⟨fun b o hb => ?_, fun b o hb => ?_, glob_keys fun b T us hm => (Array.getElem?_eq_some_iff.1 (h b T us hm).1).1⟩
  · unfold immG at hb
    split at hb
    · cases hb
    · exact hb
  · obtain ⟨T, us, hm, rfl⟩ := globSt_mem hb
    refine ⟨?_, _, (h b T us hm).1, us, rfl, vcells_vals _ us (h b T us hm).2⟩
    unfold immG
    rw [if_pos (List.any_eq_true.2 ⟨_, hm, by simp⟩)]
theorem globSt_has : ∀ {gl : Glob} {b : Nat}, gl.any (fun g => g.1 == b) = true → ∃ o, sget (globSt gl) b = some o
  | [], _, h => by simp at h
  | (c, T, us) :: gl, b, h => by
    simp only [globSt, sget]
    by_cases e : c = b
    · exact ⟨_, if_pos e⟩
    · rw [if_neg e]
      refine globSt_has ?_
      simpa [e] using h
theorem below_glob {w w' : World} {I : Imm} {gl : Glob} (h0 : gl.In w) (h1 : (immG w gl).le I) (h2 : Calm w w') (h3 : SRep I (globSt gl) w') : Below w.heap.size w w' :=
  ⟨h2.os, h2.tape, h2.output, h2.size, fun k hk => by
    have h : w.heap[k]? = some w.heap[k] := Array.getElem?_eq_getElem hk
    by_cases hg : gl.any (fun g => g.1 == k) = true
    · obtain ⟨o, ho⟩ := globSt_has hg
      obtain ⟨T, us, hm, rfl⟩ := globSt_mem ho
      obtain ⟨-, r, hr, vs, rfl, hv⟩ := h3.objs k _ ho
      rw [hr, (h0 k T us hm).1, vals_of_vcells hv]
    · have : immG w gl k = some w.heap[k] := by unfold immG; rw [if_neg hg, h]
      rw [h, h3.imm k _ (h1 k _ this)]⟩
theorem Has.bridgeG {P : Program} {g : FuncId} {m : MFunc} (hg : Has P g m) {gl : Glob} {ps : List PV} (h : Rets P g ps (globSt gl) (.bool true)) {w : World} (hw : gl.In w) {vs : List Value} (hv : vreps (immG w gl) ps vs) :
    Calls P g vs.toArray w fun e w' => e = .returned (.bool true) ∧ Below w.heap.size w w' := by
  have hp : PEnter P g ps (globSt gl) fun e s => e = .ret (.bool true) ∧ s = globSt gl := by
    rcases h with h | h
    · exact h
    · obtain ⟨v, w', h3, -⟩ := h.out _ w vs (srep_glob hw) hv
      rw [callFunc_run hg.enters] at h3
      cases h3
  refine (hp.out _ w vs (srep_glob hw) hv).mono fun e w' hh => ?_
  obtain ⟨I', st', a, b, c, pe, d, rfl, rfl⟩ := hh
  obtain ⟨v, rfl, hv⟩ := d
  simp only [vrep] at hv
  subst hv
  exact ⟨rfl, below_glob hw a b c⟩

section
variable {H : Type} {enc : TypeId × Value → H} {P : Program} {w : World} {base : Nat} {spare : Nat → Bool} {held : Bool}
end
end Go.Pv
/- 'append' whose result is never written again. -/
namespace Go.Pv
end Go.Pv
/- What arguments read as: openers of types, put together. -/
namespace Go.Pv
open Go.ChangeShapes Go.WideShapes Go.Deep Go.RowKit
theorem vcells_flatM {I : Imm} {α : Type} {f : α → List PV} {g : α → List Value} : ∀ {l : List α}, (∀ x ∈ l, vcells I (f x) (g x)) → vcells I (l.flatMap f) (l.flatMap g)
  | [], _ => by simp [vcells]
  | x :: l, h => by
    simp only [List.flatMap_cons]
    exact vcells_append (h x (by simp)) (vcells_flatM fun y hy => h y (by simp [hy]))
section
variable {H : Type} (enc : TypeId × Value → H) (P : Program) (w : World) (base : Nat) (spare : Nat → Bool) (held : Bool) (gl : Glob)
/-- Values of this type read as these cells. -/
structure Opens {A : Type} (t : TypeId) (k : Nat) (row : A → List PV) (ok : A → Prop) : Prop where
  cells : P.cellsOf t = k
  op : ∀ {fuel : Nat} {cs : List Value} {y : DataW H × List MemPlace}, DataW.trod enc P w base spare held fuel t cs = some y → ∃ a : A, ok a ∧ vcells (immG w gl) (row a) cs ∧ cs.length = k
/-- Fields of a struct, from a place on. -/
structure OpensFs {A : Type} (fs : List Field) (off k : Nat) (row : A → List PV) (ok : A → Prop) : Prop where
  op : ∀ {fuel : Nat} {cs : List Value}, off + k ≤ cs.length → (∀ (j : Nat) f, fs[j]? = some f → ∃ y, DataW.trod enc P w base spare held fuel f.type ((cs.drop f.offset).take (P.cellsOf f.type)) = some y) →
    ∃ a : A, ok a ∧ vcells (immG w gl) (row a) ((cs.drop off).take k)
end
section
variable {H : Type} {enc : TypeId × Value → H} {P : Program} {w : World} {base : Nat} {spare : Nat → Bool} {held : Bool} {gl : Glob}
theorem Opens.int {t : TypeId} {kd : IntKind} (hs : P.underlying t = some (.int kd)) (hc : P.cellsOf t = 1) : Opens enc P w base spare held gl t 1 (fun n : Int => [.val (.int kd n)]) (fun n => (Lit.int kd n).wf = true) :=
  ⟨hc, fun h => by
    obtain ⟨k, rfl, -, hwf⟩ := DataW.trod_int hs h
    exact ⟨k, hwf, by simp [vcells, vrep, Value.oneCell'], rfl⟩⟩
theorem Opens.i64 {t : TypeId} (hs : P.underlying t = some (.int .i64)) (hc : P.cellsOf t = 1) : Opens enc P w base spare held gl t 1 (fun n : Int => [.int n]) I64 :=
  ⟨hc, fun h => by
    obtain ⟨k, rfl, -, hwf⟩ := DataW.trod_int hs h
    exact ⟨k, .of_wf hwf, by simp [vcells, vrep, Value.oneCell'], rfl⟩⟩
theorem Opens.bool {t : TypeId} (hs : P.underlying t = some .bool) (hc : P.cellsOf t = 1) : Opens enc P w base spare held gl t 1 (fun b : Bool => [.bool b]) (fun _ => True) :=
  ⟨hc, fun h => by
    obtain ⟨k, rfl, -⟩ := DataW.trod_bool hs h
    exact ⟨k, trivial, by simp [vcells, vrep, Value.oneCell'], rfl⟩⟩
/-- Told otherwise. -/
theorem Opens.conv {A B : Type} {t : TypeId} {k : Nat} {row : A → List PV} {ok : A → Prop} {row' : B → List PV} {ok' : B → Prop} (h : Opens enc P w base spare held gl t k row ok) (f : A → B) (hr : ∀ a, row' (f a) = row a) (hk : ∀ a, ok a → ok' (f a)) :
    Opens enc P w base spare held gl t k row' ok' :=
  ⟨h.cells, fun hy => by
    obtain ⟨a, h1, h2, h3⟩ := h.op hy
    exact ⟨f a, hk a h1, by rw [hr]; exact h2, h3⟩⟩
theorem OpensFs.nil {off : Nat} : OpensFs enc P w base spare held gl [] off 0 (fun _ : Unit => []) (fun _ => True) :=
  ⟨fun _ _ => ⟨(), trivial, by simp [vcells]⟩⟩
theorem OpensFs.cons {A B : Type} {f : Field} {fs : List Field} {off k m : Nat} {rA : A → List PV} {kA : A → Prop} {rB : B → List PV} {kB : B → Prop} (ho : f.offset = off)
    (h1 : Opens enc P w base spare held gl f.type k rA kA) (h2 : OpensFs enc P w base spare held gl fs (off + k) m rB kB) :
    OpensFs enc P w base spare held gl (f :: fs) off (k + m) (fun x : A × B => rA x.1 ++ rB x.2) (fun x => kA x.1 ∧ kB x.2) :=
  ⟨fun {fuel cs} hl h => by
    obtain ⟨y, hy⟩ := h 0 f rfl
    rw [h1.cells, ho] at hy
    obtain ⟨a, a1, a2, a3⟩ := h1.op hy
    obtain ⟨b, b1, b2⟩ := h2.op (cs := cs) (fuel := fuel) (by omega) fun j g hg => h (j + 1) g (by simpa using hg)
    refine ⟨(a, b), ⟨a1, b1⟩, ?_⟩
    have e : (cs.drop off).take (k + m) = (cs.drop off).take k ++ (cs.drop (off + k)).take m := by
      rw [List.take_add, List.drop_drop]
    rw [e]
    exact vcells_append a2 b2⟩
theorem Opens.struct {A : Type} {t : TypeId} {k : Nat} {fs : Array Field} {row : A → List PV} {ok : A → Prop} (hs : P.underlying t = some (.struct fs)) (hc : P.cellsOf t = k) (h : OpensFs enc P w base spare held gl fs.toList 0 k row ok) :
    Opens enc P w base spare held gl t k row ok :=
  ⟨hc, fun {fuel cs y} hy => by
    obtain ⟨xs, m, _, _, h4, h5, h6⟩ := DataW.trod_struct hs hy
    rw [hc] at h4
    obtain ⟨a, a1, a2⟩ := h.op (cs := cs) (fuel := m) (by omega) fun j f hf => by
      have hf' : fs[j]? = some f := by simpa using hf
      have := h6 j f hf'
      have hj : j < fs.size := (Array.getElem?_eq_some_iff.1 hf').1
      rw [List.getElem?_eq_getElem (by omega)] at this
      exact ⟨_, this⟩
    rw [List.drop_zero, List.take_of_length_le (by omega)] at a2
    exact ⟨a, a1, a2, h4⟩⟩
/-- No element of this type lies in a variable of ours. -/
def OffE (enc : TypeId × Value → H) (P : Program) (w : World) (base : Nat) (spare : Nat → Bool) (held : Bool) (gl : Glob) (e : TypeId) : Prop :=
  ∀ (b off fuel : Nat) (cs : List Value) (y : DataW H × List MemPlace), gl.any (fun g => g.1 == b) = true → (∀ j, j < cs.length → w.cell? ⟨b, off + j, none⟩ = cs[j]?) → DataW.trod enc P w base spare held fuel e cs = some y → False
theorem OffE.nil {e : TypeId} : OffE enc P w base spare held [] e := fun _ _ _ _ _ h => by simp at h
theorem Opens.slice {A : Type} [Inhabited A] {t e : TypeId} {k : Nat} {row : A → List PV} {ok : A → Prop} (hoff : OffE enc P w base spare held gl e) (hs : P.underlying t = some (.slice e)) (ht : P.cellsOf t = 1) (hk : 0 < k) (hE : Opens enc P w base spare held gl e k row ok) :
    Opens enc P w base spare held gl t 1 (fun l : List A => [.list false (l.flatMap row) l.length]) (fun l => ∀ x ∈ l, ok x) :=
  ⟨ht, fun {fuel cs y} h => by
    rcases open_slice hs h with ⟨rfl, -⟩ | ⟨a, len, cap, m, n, D, Pl, rfl, -, hl, hm, hmm, hxe, hx⟩
    · exact ⟨[], by simp, by
        simp only [vcells, List.flatMap_nil, List.length_nil]
        exact ⟨⟨(PLe.trans .nil .loose : PLe .nil (.list false [] 0)) _ _ (by simp only [vrep]), rfl⟩, trivial⟩, rfl⟩
    · have hlm : len ≤ m := by rw [hmm]; split <;> omega
      obtain ⟨f, hf⟩ := choose_lt (α := A × List Value) (p := fun i q => ok q.1 ∧ vcells (immG w gl) (row q.1) q.2 ∧ q.2.length = k ∧ (∀ j, j < k → w.cell? (a.add (i * k + j)) = q.2[j]?) ∧ ∃ y, DataW.trod enc P w base spare held n e q.2 = some y) (n := len) fun i hi => by
        obtain ⟨cs', g1, g2⟩ := hx i (by omega)
        obtain ⟨-, g6, g7⟩ := World.cells?_some g1
        rw [hE.cells] at g7
        obtain ⟨a', k1, k2, k3⟩ := hE.op g2
        refine ⟨(a', cs'), k1, k2, k3, fun j hj => ?_, _, g2⟩
        have := g7 j hj
        rw [add_add] at this
        exact this
      refine ⟨(List.range len).map fun i => (f i).1, fun x hx => ?_, ?_, rfl⟩
      · obtain ⟨i, hi, rfl⟩ := List.mem_map.1 hx
        exact (hf i (List.mem_range.1 hi)).1
      simp only [vcells, vrep, List.length_map, List.length_range]
      refine ⟨⟨⟨some a, cap, (List.range len).flatMap fun i => (f i).2, rfl, by simpa using hl, hm, by simp, ?_, ?_⟩, rfl⟩, trivial⟩
      · rw [List.flatMap_map]
        exact vcells_flatM fun i hi => (hf i (List.mem_range.1 hi)).2.1
      · by_cases h0 : len = 0
        · left; subst h0; rfl
        · right
          obtain ⟨-, -, l0, c0, y0, hy0⟩ := hf 0 (by omega)
          have hsp : a.spot = none := by
            have := c0 0 hk
            rw [List.getElem?_eq_getElem (by omega)] at this
            have := World.cell?_spot this
            obtain ⟨x, y, z⟩ := a
            simpa [Addr.add] using this
          obtain ⟨b, off, spot⟩ := a
          subst hsp
          refine ⟨b, off, rfl, ?_⟩
          have hadd : ∀ q, (⟨b, off, none⟩ : Addr).add q = ⟨b, off + q, none⟩ := fun q => by
            unfold Addr.add
            by_cases hq : q = 0 <;> simp [hq]
          have hb : ¬ gl.any (fun g => g.1 == b) = true := fun hb => hoff b off n (f 0).2 y0 hb (fun j hj => by
            have := c0 j (by omega)
            rw [hadd] at this
            simpa using this) hy0
          have hF : ∀ i ∈ List.range len, ((fun i => (f i).2) i).length = k := fun i hi => (hf i (List.mem_range.1 hi)).2.2.1
          have hcell : ∀ j v, ((List.range len).flatMap fun i => (f i).2)[j]? = some v → w.cell? ⟨b, off + j, none⟩ = some v := by
            intro j v hj
            have hjl := (List.getElem?_eq_some_iff.1 hj).1
            rw [flat_len _ k _ hF] at hjl
            simp only [List.length_range] at hjl
            have hq : j / k < len := (Nat.div_lt_iff_lt_mul hk).2 hjl
            have hr : j % k < k := Nat.mod_lt _ hk
            have he : j / k * k + j % k = j := by rw [Nat.mul_comm]; exact Nat.div_add_mod j k
            have h1 := flat_at (fun i => (f i).2) k _ (j / k) (j % k) hF hr (by simpa using hq)
            rw [he, hj] at h1
            simp only [List.getElem_range] at h1
            have h2 := (hf (j / k) hq).2.2.2.1 (j % k) hr
            rw [hadd, he] at h2
            rw [h2, h1]
          cases hv : ((List.range len).flatMap fun i => (f i).2) with
          | nil =>
            have := flat_len (fun i => (f i).2) k _ hF
            rw [hv] at this
            simp only [List.length_nil, List.length_range] at this
            have := Nat.mul_pos (Nat.pos_of_ne_zero h0) hk
            omega
          | cons v0 vs0 =>
            obtain ⟨arr, T, fz, g1, -⟩ := row_of_cell (hcell 0 v0 (by rw [hv]; rfl))
            refine ⟨arr, T, fz, by unfold immG; rw [if_neg hb]; exact g1, fun j v hj => ?_⟩
            rw [← hv] at hj
            obtain ⟨arr', T', fz', g2, g3⟩ := row_of_cell (hcell j v hj)
            have g1' : w.heap[b]? = some (.cells arr T fz) := g1
            have g2' : w.heap[b]? = some (.cells arr' T' fz') := g2
            rw [g1'] at g2'
            cases g2'
            exact g3⟩
/-! ### Arguments -/
theorem Opens.argL {A : Type} {t : TypeId} {one : A → PV} {ok : A → Prop} (h : Opens enc P w base spare held gl t 1 (fun a => [one a]) ok) {e : TypeId} (hs : P.underlying t = some (.slice e)) {r : Reach} {b0 : Nat} {v : Value} {d : DataW H} {p : List MemPlace}
    (hv : Value.okWide P w r b0 t v) (hd : DataW.Trod enc P w base spare held t v d p) : ∃ a : A, ok a ∧ vrep (immG w gl) (one a) v := by
  obtain ⟨a, n, cap, rfl⟩ := okWide_slice hs hv
  obtain ⟨fuel, hf⟩ := hd
  have hf' : DataW.trod enc P w base spare held fuel t [.slice a n cap] = some (d, p) := hf
  obtain ⟨x, h1, h2, -⟩ := h.op hf'
  simp only [vcells] at h2
  exact ⟨x, h1, h2.1.1⟩
end
theorem ints_flat (l : List Int) : l.flatMap (fun n => [PV.int n]) = l.map PV.int := by
  induction l with
  | nil => rfl
  | cons a l ih => rw [List.flatMap_cons, ih]; rfl
end Go.Pv
/- Strings among arguments; lists are no longer than a machine can hold. -/
namespace Go.Pv
open Go.ChangeShapes Go.WideShapes Go.Deep Go.RowKit
section
variable {H : Type} {enc : TypeId × Value → H} {P : Program} {w : World} {base : Nat} {spare : Nat → Bool} {held : Bool} {gl : Glob}
theorem Opens.str {t : TypeId} (hs : P.underlying t = some .string) (hc : P.cellsOf t = 1) : Opens enc P w base spare held gl t 1 (fun s : ByteArray => [.str s]) (fun _ => True) :=
  ⟨hc, fun h => by
    obtain ⟨s, rfl, -, -⟩ := DataW.trod_string hs h
    exact ⟨s, trivial, by simp [vcells, vrep, Value.oneCell'], rfl⟩⟩
end
mutual
/-- No list is longer than a machine can hold. -/
def PV.wide : PV → Prop
  | .list _ cs n => n ≤ 9223372036854775807 ∧ PV.wides cs
  | .agg cs => PV.wides cs
  | _ => True
def PV.wides : List PV → Prop
  | [] => True
  | p :: ps => p.wide ∧ PV.wides ps
end
mutual
theorem vrep_wide {I : Imm} : ∀ (p : PV) (v : Value), vrep I p v → p.wide
  | .any, _, _ => by simp only [PV.wide]
  | .val _, _, _ => by simp only [PV.wide]
  | .agg cs, v, hr => by
    simp only [vrep] at hr
    simp only [PV.wide]
    obtain ⟨vs, -, h2⟩ := hr
    exact vcells_wide cs vs h2
  | .tuple _, _, _ => by simp only [PV.wide]
  | .list tight cs n, v, hr => by
    simp only [vrep] at hr
    simp only [PV.wide]
    obtain ⟨a, cap, vs, -, h2, h3, -, h5, -⟩ := hr
    exact ⟨by unfold maxLen at h3; omega, vcells_wide cs vs h5⟩
  | .iptr _ _, _, _ => by simp only [PV.wide]
  | .imap _ _, _, _ => by simp only [PV.wide]
  | .func _ _ _, _, _ => by simp only [PV.wide]
  | .iface _ _, _, _ => by simp only [PV.wide]
theorem vcells_wide {I : Imm} : ∀ (ps : List PV) (vs : List Value), vcells I ps vs → PV.wides ps
  | [], _, _ => by simp only [PV.wides]
  | _ :: _, [], hr => by simp [vcells] at hr
  | p :: ps, v :: vs, hr => by
    simp only [vcells] at hr
    simp only [PV.wides]
    exact ⟨vrep_wide p v hr.1.1, vcells_wide ps vs hr.2⟩
end
theorem Sound.wide {ps : List PV} {st : Store} (h : Sound ps st) {p : PV} (hm : p ∈ ps) : p.wide := by
  obtain ⟨I, w, vs, -, hv⟩ := h
  obtain ⟨v, hv⟩ := vreps_mem hv hm
  exact vrep_wide p v hv
end Go.Pv
