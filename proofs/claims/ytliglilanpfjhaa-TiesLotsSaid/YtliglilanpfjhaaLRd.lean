/- Rules: functions that defer calls, functions that recover, calls that panic. -/
import Derived.Test.YtliglilanpfjhaaLFr
import Derived.Test.YtliglilanpfjhaaLSf
namespace Go.Pv
universe u
/-- Over the statements of a body that defers calls. -/
def xbody (P : Program) (pn : List Nat) (b : MBody) (E0 : Env) (ds : List (FuncId × List PV)) (K : Env → List (FuncId × List PV) → MPost) (s : PS) (_ : Tok (b, K) := ⟨⟩) : Prop := mbwp P pn b E0 ds K s
def xleave (P : Program) (ds : List (FuncId × List PV)) (u : PMode) (st : Store) (rs : List MRes) (e : Env) (R E : PV → Store → Prop) (_ : Tok (R, E) := ⟨⟩) : Prop := pleave P ds u st (pfin rs e R E)
def xretD (P : Program) (rs : List MRes) (R E : PV → Store → Prop) (E0 : Env) (ds : List (FuncId × List PV)) (e : MExit) (s : PS) (_ : Tok (R, E) := ⟨⟩) : Prop := retPostD P rs R E E0 ds e s
/-- A deferred call. -/
def xdef (P : Program) (g : FuncId) (ps : List PV) (u : PMode) (st : Store) (Q : PMode → Store → Prop) (_ : Tok Q := ⟨⟩) : Prop := PDef P g ps u st Q
section
variable (P : Program) (pn : List Nat) (E0 : Env) (ds : List (FuncId × List PV)) (K : Env → List (FuncId × List PV) → MPost) (s : PS) (e : Env) (st : Store) (rs : List MRes) (R E : PV → Store → Prop)
@[simp ↓] theorem xbody_done : xbody P pn .done E0 ds K s = K E0 ds .normal s := rfl
@[simp ↓] theorem xbody_pre (c : MCode) (b : MBody) : xbody P pn (.pre [] c b) E0 ds K s = xwp P c (fun ex s' => xthen (fun s' => xbody P pn b E0 ds K s') (fun ex s' => K E0 ds ex s') ex s') s := rfl
@[simp ↓] theorem xbody_preX (t : Nat) (ts : List Nat) (c : MCode) (b : MBody) : xbody P pn (.pre (t :: ts) c b) E0 ds K ⟨e, st⟩ = force (epick (t :: ts) e ++ E0) fun E1 => xwp P c (fun ex s' => xthen (fun s' => xbody P pn b E0 ds K s') (fun ex s' => K E1 ds ex s') ex s') ⟨e, st⟩ := by
  simp only [force_eq]; rfl
@[simp ↓] theorem xbody_push (f : MX) (args : List MX) (b : MBody) : xbody P pn (.push f args b) E0 ds K ⟨e, st⟩ = onSome (meval e f).func? fun q => Enters P q.1 ∧ force (epick pn e) fun E1 => xbody P pn b E1 ((q.1, q.2.1 ++ args.map (meval e) ++ q.2.2) :: ds) K ⟨e, st⟩ := by
  simp only [xbody, mbwp, force_eq]
  split
  · rename_i g fs cs h
    rw [h]
    simp only [func?_func, onSome_some]
  · rename_i h
    simp only [onSome, eq_iff_iff, false_iff]
    rintro ⟨⟨g, fs, cs⟩, h2, -⟩
    unfold PV.func? at h2
    split at h2
    · rename_i h3; exact h _ _ _ h3
    · cases h2
@[simp ↓] theorem xbody_pushR (is : List MInst) (f : MX) (args : List MX) (b : MBody) : xbody P pn (.pushR is f args b) E0 ds K ⟨e, st⟩ = xops P is ⟨e, st⟩ (fun s => onSome (meval s.env f).func? fun q => Enters P q.1 ∧ force (epick pn s.env) fun E1 => xbody P pn b E1 ((q.1, q.2.1 ++ args.map (meval s.env) ++ q.2.2) :: ds) K s) (fun _ _ => False) := by
  simp only [xbody, mbwp, xops, force_eq]
  refine congrArg (fun k => mops P is ⟨e, st⟩ k fun _ _ => False) ?_
  funext s
  split
  · rename_i g fs cs h
    rw [h]
    simp only [func?_func, onSome_some]
  · rename_i h
    simp only [onSome, eq_iff_iff, false_iff]
    rintro ⟨⟨g, fs, cs⟩, h2, -⟩
    unfold PV.func? at h2
    split at h2
    · rename_i h3; exact h _ _ _ h3
    · cases h2
@[simp ↓] theorem xretD_normal : xretD P rs R E E0 ds .normal ⟨e, st⟩ = xleave P ds .returning st rs e R E := rfl
@[simp ↓] theorem xretD_ret : xretD P rs R E E0 ds .ret ⟨e, st⟩ = xleave P ds .returning st rs e R E := rfl
@[simp ↓] theorem xretD_panic (p : PV) : xretD P rs R E E0 ds (.panic p) ⟨e, st⟩ = xleave P ds (.panicking p) st rs E0 R E := rfl
@[simp ↓] theorem xretD_exit (id : Nat) : xretD P rs R E E0 ds (.exit id) s = False := rfl
@[simp ↓] theorem xleave_ret : xleave P [] .returning st rs e R E = xres ⟨e, st⟩ rs fun ps => R (tuplePV ps) st := rfl
@[simp ↓] theorem xleave_panic (p : PV) : xleave P [] (.panicking p) st rs e R E = E p st := rfl
@[simp ↓] theorem xleave_cons (g : FuncId) (ps : List PV) (u : PMode) : xleave P ((g, ps) :: ds) u st rs e R E = xdef P g ps u st fun u' st' => xleave P ds u' st' rs e R E := rfl
end
@[congr] theorem xdef_congr {P : Program} {g : FuncId} {ps ps' : List PV} {u : PMode} {st st' : Store} {Q : PMode → Store → Prop} (h1 : ps = ps') (h2 : st = st') : xdef P g ps u st Q = xdef P g ps' u st' Q := by subst h1; subst h2; rfl
/-- A deferred call that leaves this mode and this store. -/
def Defs (P : Program) (g : FuncId) (ps : List PV) (u : PMode) (st : Store) (u' : PMode) (st' : Store) : Prop := PDef P g ps u st fun v s => v = u' ∧ s = st'
theorem PDef.mono {P : Program} {g : FuncId} {ps : List PV} {u : PMode} {st : Store} {Q Q' : PMode → Store → Prop} (h : PDef P g ps u st Q) (hq : ∀ u s, Q u s → Q' u s) : PDef P g ps u st Q' := by
  obtain ⟨h1, h2⟩ := h
  refine ⟨h1, fun I w vs fu a b c => ?_⟩
  obtain ⟨k1, k2⟩ := h2 I w vs fu a b c
  refine ⟨k1, fun cc cs hu hr => ?_⟩
  obtain ⟨en, u', w2, fr, ⟨hR1, I', st', i1, i2, i3, u'', i4, i5⟩, rest⟩ := k2 cc cs hu hr
  exact ⟨en, u', w2, fr, ⟨hR1, I', st', i1, i2, i3, u'', i4, hq _ _ i5⟩, rest⟩
theorem Defs.xdef {P : Program} {g : FuncId} {ps : List PV} {u u' : PMode} {st st' : Store} (h : Defs P g ps u st u' st') {Q : PMode → Store → Prop} (hk : Q u' st') : xdef P g ps u st Q :=
  PDef.mono h fun v s ⟨h1, h2⟩ => by subst h1; subst h2; exact hk
theorem PDef.le {P : Program} {g : FuncId} {ps : List PV} {u : PMode} {st st' : Store} {Q : PMode → Store → Prop} (hs : StLe st' st) (h : PDef P g ps u st' Q) : PDef P g ps u st Q :=
  ⟨h.enters, fun I w vs fu a b c => h.out I w vs fu a (b.le hs) c⟩
/-- A contract of a function that defers calls, from the walk; what is behind a return, or a panic, may be seen otherwise. -/
theorem HasD.walk {P : Program} (hmix : P.follows .mixedOrders = true) {g : FuncId} {m : MDFunc} (h : HasD P g m) {nt np : Nat} {pn : List Nat} {rs : List MRes} {b : MBody} (hm : m = ⟨nt, np, pn, rs, b⟩) {ps : List PV} {st : Store} {Q : PEnd → Store → Prop} (hlen : ps.length = np)
    {R E : PV → Store → Prop} (hR : ∀ p st, R p st → RetView .ret p st Q) (hE : ∀ p st, E p st → RetView .panic p st Q)
    (hw : xbody P pn b [] [] (fun E0 ds ex s => xretD P rs R E E0 ds ex s) ⟨initEnv 0 ps, st⟩) : PCalls P g ps st Q := by
  subst hm
  exact h.calls hmix hlen hR hE hw
theorem HasD.pure {P : Program} (hmix : P.follows .mixedOrders = true) {g : FuncId} {m : MDFunc} (h : HasD P g m) {nt np : Nat} {pn : List Nat} {rs : List MRes} {b : MBody} (hm : m = ⟨nt, np, pn, rs, b⟩) {ps : List PV} {st : Store} {p : PV} (hlen : ps.length = np)
    (hw : xbody P pn b [] [] (fun E0 ds ex s => xretD P rs (fun q st' => q = p ∧ Over st st') (fun _ _ => False) E0 ds ex s) ⟨initEnv 0 ps, st⟩) : Rets P g ps st p :=
  h.walk hmix hm hlen (fun _ _ ⟨h1, h2⟩ => .drop h2.le ⟨by rw [h1], rfl⟩) (fun _ _ h => h.elim) hw
theorem HasD.view {P : Program} (hmix : P.follows .mixedOrders = true) {g : FuncId} {m : MDFunc} (h : HasD P g m) {nt np : Nat} {pn : List Nat} {rs : List MRes} {b : MBody} (hm : m = ⟨nt, np, pn, rs, b⟩) {ps : List PV} {st : Store} {Q : PEnd → Store → Prop} (hlen : ps.length = np)
    (hw : xbody P pn b [] [] (fun E0 ds ex s => xretD P rs (fun q st' => RetView .ret q st' Q) (fun q st' => RetView .panic q st' Q) E0 ds ex s) ⟨initEnv 0 ps, st⟩) : PCalls P g ps st Q :=
  h.walk hmix hm hlen (R := fun q st' => RetView .ret q st' Q) (E := fun q st' => RetView .panic q st' Q) (fun _ _ h => h) (fun _ _ h => h) hw
/-- What a function that recovers leaves. -/
theorem HasR.walk {P : Program} (hmix : P.follows .mixedOrders = true) {g : FuncId} {m : MRFunc} (h : HasR P g m) {nt np d : Nat} {rs : List MRes} {c : MCode} (hm : m = ⟨nt, np, d, rs, c⟩) {ps : List PV} {u : PMode} {st : Store} {Q : PMode → Store → Prop} (hlen : ps.length = np)
    (hw : xwp P c (fun ex s => xret rs (fun _ st' => Q .returning st') (fun _ _ => False) ex s) ⟨eput (initEnv 0 ps) (some d) (recovered u), st⟩) : PDef P g ps u st Q := by
  subst hm
  exact h.pdef hmix hlen hw
theorem HasR.defs {P : Program} (hmix : P.follows .mixedOrders = true) {g : FuncId} {m : MRFunc} (h : HasR P g m) {nt np d : Nat} {rs : List MRes} {c : MCode} (hm : m = ⟨nt, np, d, rs, c⟩) {ps : List PV} {u : PMode} {st st' : Store} (hlen : ps.length = np)
    (hw : xwp P c (fun ex s => xret rs (fun _ s => s = st') (fun _ _ => False) ex s) ⟨eput (initEnv 0 ps) (some d) (recovered u), st⟩) : Defs P g ps u st .returning st' :=
  PDef.mono (h.walk hmix hm hlen (Q := fun v s => v = .returning ∧ s = st') (by
    have e : (fun (_ : PV) (s : Store) => PMode.returning = .returning ∧ s = st') = fun _ s => s = st' := by funext _ s; simp
    rw [e]; exact hw)) fun _ _ h => h
@[simp] theorem recovered_ret : recovered .returning = .val .nilIface := rfl
@[simp] theorem recovered_panic (p : PV) : recovered (.panicking p) = p := rfl
theorem HasR.enters {P : Program} {g : FuncId} {m : MRFunc} (h : HasR P g m) : Enters P g := by
  obtain ⟨fn, h1, h2, h3⟩ := h
  refine ⟨fn, h1, h2, ?_⟩
  unfold convRFunc at h3
  split at h3
  · rename_i c hc; rw [hc]; rfl
  · cases h3
theorem HasD.enters {P : Program} {g : FuncId} {m : MDFunc} (h : HasD P g m) : Enters P g := by
  obtain ⟨fn, h1, h2, h3⟩ := h
  refine ⟨fn, h1, h2, ?_⟩
  unfold convDFunc at h3
  split at h3
  · rename_i c hc; rw [hc]; rfl
  · cases h3
@[simp] theorem xsliceArr_o3 (n k b off : Nat) (l h : Int) (K : PV → Prop) : xsliceArr n k (.val (.pointer (some ⟨b, off, none⟩))) (some l) (some h) none K = (0 ≤ h ∧ h ≤ n ∧ 0 ≤ l ∧ l ≤ h ∧ (l = n → K (.list true [] 0)) ∧ (l < n → K (.own b (off + l.toNat * k) (h.toNat - l.toNat) (n - l.toNat)))) := by
  simp only [xsliceArr, sliceArrPV, ownSlice]
  simp
/-! ### Late reads of a row whose further cells are written -/
/-- The stores that hold what another one holds, but for the cells from n on of one row. -/
def ClsU (st0 : Store) (w : Nat) (T : TypeId) (W : List PV) (n : Nat) (st : Store) : Prop := Cls st0 [w] st ∧ ∃ W', sget st w = some (.arr T W') ∧ ∀ j, j < n → W'[j]? = W[j]?
theorem ClsU.self {st0 : Store} {w : Nat} {T : TypeId} {W : List PV} {n : Nat} (h : sget st0 w = some (.arr T W)) : ClsU st0 w T W n st0 := ⟨Cls.self _ _, W, h, fun _ _ => rfl⟩
@[simp] theorem ClsU_self {st0 : Store} {w : Nat} {T : TypeId} {W : List PV} {n : Nat} : ClsU ((w, .arr T W) :: st0) w T W n ((w, .arr T W) :: st0) = True := eq_true (ClsU.self (by simp))
theorem ClsU.put {st0 : Store} {w : Nat} {T : TypeId} {W W' : List PV} {n : Nat} (h : ∀ j, j < n → W'[j]? = W[j]?) : ClsU ((w, .arr T W) :: st0) w T W n ((w, .arr T W') :: st0) :=
  ⟨Cls_in (by simp) (Cls.self _ _), W', by simp, h⟩
@[simp] theorem xlateLoad_U {st0 : Store} {w : Nat} {T : TypeId} {W : List PV} {n off : Nat} {K : PV → Prop} (hn : off < n) : xlateLoad (ClsU ((w, .arr T W) :: st0) w T W n) 1 false (.val (.pointer (some ⟨w, off, none⟩))) K = onSome (W[off]?) K := by
  have key : ∀ st, ClsU ((w, .arr T W) :: st0) w T W n st → ∀ K' : PV → Prop, mval (.load 1 false (.const (.ptr w off))) (meval []) st K' ↔ onSome (W[off]?) K' := fun st hst K' => by
    obtain ⟨-, W', h1, h2⟩ := hst
    have h3 := h2 off hn
    simp [mval, rowAt?, h1, h3, onSome]
  have h0 : ClsU ((w, .arr T W) :: st0) w T W n ((w, .arr T W) :: st0) := ClsU.self (by simp)
  apply propext
  constructor
  · rintro ⟨q, h1, h2⟩
    have := (key _ h0 _).1 (h1 _ h0)
    obtain ⟨a, h3, rfl⟩ := this
    exact ⟨a, h3, h2⟩
  · rintro ⟨a, h3, h4⟩
    exact ⟨a, fun st hst => (key st hst _).2 ⟨a, h3, rfl⟩, h4⟩
/-- Called so, the function panics with p, and the store is as it was. -/
def Panics (P : Program) (g : FuncId) (ps : List PV) (st : Store) (p : PV) : Prop := PCalls P g ps st fun e s => e = .panic p ∧ s = st
theorem Panics.xcall {P : Program} {g : FuncId} {ps : List PV} {st : Store} {p : PV} (h : Panics P g ps st p) {Q : PEnd → Store → Prop} (hk : Q (.panic p) st) : xcall P g ps st Q :=
  PCalls.mono h fun e s ⟨h1, h2⟩ => by subst h1; subst h2; exact hk
theorem Has.panics {P : Program} (hmix : P.follows .mixedOrders = true) {g : FuncId} {m : MFunc} (h : Has P g m) {nt np : Nat} {rs : List MRes} {c : MCode} (hm : m = ⟨nt, np, rs, c⟩) {ps : List PV} {st : Store} {p : PV} (hlen : ps.length = np)
    (hw : xwp P c (fun e s => xret rs (fun _ _ => False) (fun q st' => q = p ∧ Over st st') e s) ⟨initEnv 0 ps, st⟩) : Panics P g ps st p :=
  h.walk hmix hm hlen (fun _ _ h => h.elim) (fun _ _ ⟨h1, h2⟩ => .drop h2.le ⟨by rw [h1], rfl⟩) hw
end Go.Pv
