/- Rules: functions that defer calls, functions that recover, calls that panic. -/
import Derived.Test.YtnooplpbpfiapaaGreatDoorLFr
import Derived.Test.YtnooplpbpfiapaaGreatDoorLSf
import Derived.Handed
import Derived.LaidMore
import Derived.Test.YtnooplpbpfiapaaGreatDoorLBr
namespace Go.Pv
universe u
def k9d (P : Program) (pn : List Nat) (b : MBody) (E0 : Env) (ds : List (FuncId × List PV)) (K : Env → List (FuncId × List PV) → q7l) (s : PS) (_ : Tok (b, K) := ⟨⟩) : Prop := j14 P pn b E0 ds K s
def k9e (P : Program) (ds : List (FuncId × List PV)) (u : PMode) (st : q5d) (rs : List MRes) (e : Env) (R E : PV → q5d → Prop) (_ : Tok (R, E) := ⟨⟩) : Prop := k7l P ds u st (j8z rs e R E)
def z6x (P : Program) (rs : List MRes) (R E : PV → q5d → Prop) (E0 : Env) (ds : List (FuncId × List PV)) (e : MExit) (s : PS) (_ : Tok (R, E) := ⟨⟩) : Prop := k8b P rs R E E0 ds e s
def xdef (P : Program) (g : FuncId) (ps : List PV) (u : PMode) (st : q5d) (Q : PMode → q5d → Prop) (_ : Tok Q := ⟨⟩) : Prop := PDef P g ps u st Q
section
variable (P : Program) (pn : List Nat) (E0 : Env) (ds : List (FuncId × List PV)) (K : Env → List (FuncId × List PV) → q7l) (s : PS) (e : Env) (st : q5d) (rs : List MRes) (R E : PV → q5d → Prop)
@[simp ↓] theorem y2f : k9d P pn .done E0 ds K s = K E0 ds .normal s := rfl
@[simp ↓] theorem y4u (c : MCode) (b : MBody) : k9d P pn (.pre [] c b) E0 ds K s = xwp P c (fun ex s' => k4z (fun s' => k9d P pn b E0 ds K s') (fun ex s' => K E0 ds ex s') ex s') s := rfl
@[simp ↓] theorem y2g (t : Nat) (ts : List Nat) (c : MCode) (b : MBody) : k9d P pn (.pre (t :: ts) c b) E0 ds K ⟨e, st⟩ = k0h (q90 (t :: ts) e ++ E0) fun E1 => xwp P c (fun ex s' => k4z (fun s' => k9d P pn b E0 ds K s') (fun ex s' => K E1 ds ex s') ex s') ⟨e, st⟩ := by
 simp only [k32]; rfl
@[simp ↓] theorem y2h (f : MX) (args : List MX) (b : MBody) : k9d P pn (.push f args b) E0 ds K ⟨e, st⟩ = q5p (q59 e f).func? fun q => k2t P q.1 ∧ k0h (q90 pn e) fun E1 => k9d P pn b E1 ((q.1, q.2.1 ++ args.map (q59 e) ++ q.2.2) :: ds) K ⟨e, st⟩ := by
 simp only [k9d, j14, k32]
 split
 ·rename_i g fs cs h
  rw [h]
  simp only [z93, q5r]
 ·rename_i h
  simp only [q5p, eq_iff_iff, false_iff]
  rintro ⟨⟨g, fs, cs⟩, h2, -⟩
  unfold PV.func? at h2
  split at h2
  ·rename_i h3; exact h _ _ _ h3
  ·cases h2
@[simp ↓] theorem j8d : z6x P rs R E E0 ds .normal ⟨e, st⟩ = k9e P ds .returning st rs e R E := rfl
@[simp ↓] theorem y4v : z6x P rs R E E0 ds .ret ⟨e, st⟩ = k9e P ds .returning st rs e R E := rfl
@[simp ↓] theorem j9y (p : PV) : z6x P rs R E E0 ds (.panic p) ⟨e, st⟩ = k9e P ds (.panicking p) st rs E0 R E := rfl
@[simp ↓] theorem y2i (id : Nat) : z6x P rs R E E0 ds (.exit id) s = False := rfl
@[simp ↓] theorem y2j : k9e P [] .returning st rs e R E = j4w ⟨e, st⟩ rs fun ps => R (k25 ps) st := rfl
@[simp ↓] theorem j8e (p : PV) : k9e P [] (.panicking p) st rs e R E = E p st := rfl
@[simp ↓] theorem j9z (g : FuncId) (ps : List PV) (u : PMode) : k9e P ((g, ps) :: ds) u st rs e R E = xdef P g ps u st fun u' st' => k9e P ds u' st' rs e R E := rfl
end
@[congr] theorem y2k {P : Program} {g : FuncId} {ps ps' : List PV} {u : PMode} {st st' : q5d} {Q : PMode → q5d → Prop} (h1 : ps = ps') (h2 : st = st') : xdef P g ps u st Q = xdef P g ps' u st' Q := by subst h1; subst h2; rfl
def Defs (P : Program) (g : FuncId) (ps : List PV) (u : PMode) (st : q5d) (u' : PMode) (st' : q5d) : Prop := PDef P g ps u st fun v s => v = u' ∧ s = st'
theorem PDef.mono {P : Program} {g : FuncId} {ps : List PV} {u : PMode} {st : q5d} {Q Q' : PMode → q5d → Prop} (h : PDef P g ps u st Q) (hq : ∀ u s, Q u s → Q' u s) : PDef P g ps u st Q' := by
 obtain ⟨h1, h2⟩ := h
 refine ⟨h1, fun I w vs fu a b c => ?_⟩
 obtain ⟨k1, k2⟩ := h2 I w vs fu a b c
 refine ⟨k1, fun cc cs hu hr => ?_⟩
 obtain ⟨en, u', w2, fr, ⟨hR1, I', st', i1, i2, i3, u'', i4, i5⟩, rest⟩ := k2 cc cs hu hr
 exact ⟨en, u', w2, fr, ⟨hR1, I', st', i1, i2, i3, u'', i4, hq _ _ i5⟩, rest⟩
theorem Defs.xdef {P : Program} {g : FuncId} {ps : List PV} {u u' : PMode} {st st' : q5d} (h : Defs P g ps u st u' st') {Q : PMode → q5d → Prop} (hk : Q u' st') : xdef P g ps u st Q :=
 PDef.mono h fun v s ⟨h1, h2⟩ => by subst h1; subst h2; exact hk
theorem HasD.walk {P : Program} (q5n : P.follows .mixedOrders = true) {g : FuncId} {m : MDFunc} (h : HasD P g m) {nt np : Nat} {pn : List Nat} {rs : List MRes} {b : MBody} (hm : m = ⟨nt, np, pn, rs, b⟩) {ps : List PV} {st : q5d} {Q : PEnd → q5d → Prop} (hlen : ps.length = np)
  {R E : PV → q5d → Prop} (hR : ∀ p st, R p st → RetView .ret p st Q) (hE : ∀ p st, E p st → RetView .panic p st Q)
  (hw : k9d P pn b [] [] (fun E0 ds ex s => z6x P rs R E E0 ds ex s) ⟨q6y 0 ps, st⟩) : PCalls P g ps st Q := by
 subst hm
 exact h.calls q5n hlen hR hE hw
theorem HasD.pure {P : Program} (q5n : P.follows .mixedOrders = true) {g : FuncId} {m : MDFunc} (h : HasD P g m) {nt np : Nat} {pn : List Nat} {rs : List MRes} {b : MBody} (hm : m = ⟨nt, np, pn, rs, b⟩) {ps : List PV} {st : q5d} {p : PV} (hlen : ps.length = np)
  (hw : k9d P pn b [] [] (fun E0 ds ex s => z6x P rs (fun q st' => q = p ∧ Over st st') (fun _ _ => False) E0 ds ex s) ⟨q6y 0 ps, st⟩) : Rets P g ps st p :=
 h.walk q5n hm hlen (fun _ _ ⟨h1, h2⟩ => .drop h2.le ⟨by rw [h1], rfl⟩) (fun _ _ h => h.elim) hw
theorem HasD.view {P : Program} (q5n : P.follows .mixedOrders = true) {g : FuncId} {m : MDFunc} (h : HasD P g m) {nt np : Nat} {pn : List Nat} {rs : List MRes} {b : MBody} (hm : m = ⟨nt, np, pn, rs, b⟩) {ps : List PV} {st : q5d} {Q : PEnd → q5d → Prop} (hlen : ps.length = np)
  (hw : k9d P pn b [] [] (fun E0 ds ex s => z6x P rs (fun q st' => RetView .ret q st' Q) (fun q st' => RetView .panic q st' Q) E0 ds ex s) ⟨q6y 0 ps, st⟩) : PCalls P g ps st Q :=
 h.walk q5n hm hlen (R := fun q st' => RetView .ret q st' Q) (E := fun q st' => RetView .panic q st' Q) (fun _ _ h => h) (fun _ _ h => h) hw
theorem HasR.walk {P : Program} (q5n : P.follows .mixedOrders = true) {g : FuncId} {m : MRFunc} (h : HasR P g m) {nt np d : Nat} {rs : List MRes} {c : MCode} (hm : m = ⟨nt, np, d, rs, c⟩) {ps : List PV} {u : PMode} {st : q5d} {Q : PMode → q5d → Prop} (hlen : ps.length = np)
  (hw : xwp P c (fun ex s => j2m rs (fun _ st' => Q .returning st') (fun _ _ => False) ex s) ⟨k0o (q6y 0 ps) (some d) (recovered u), st⟩) : PDef P g ps u st Q := by
 subst hm
 exact h.pdef q5n hlen hw
theorem HasR.defs {P : Program} (q5n : P.follows .mixedOrders = true) {g : FuncId} {m : MRFunc} (h : HasR P g m) {nt np d : Nat} {rs : List MRes} {c : MCode} (hm : m = ⟨nt, np, d, rs, c⟩) {ps : List PV} {u : PMode} {st st' : q5d} (hlen : ps.length = np)
  (hw : xwp P c (fun ex s => j2m rs (fun _ s => s = st') (fun _ _ => False) ex s) ⟨k0o (q6y 0 ps) (some d) (recovered u), st⟩) : Defs P g ps u st .returning st' :=
 PDef.mono (h.walk q5n hm hlen (Q := fun v s => v = .returning ∧ s = st') (by
  have e : (fun (_ : PV) (s : q5d) => PMode.returning = .returning ∧ s = st') = fun _ s => s = st' := by funext _ s; simp
  rw [e]; exact hw)) fun _ _ h => h
@[simp] theorem j57 : recovered .returning = .val .nilIface := rfl
@[simp] theorem j2z (p : PV) : recovered (.panicking p) = p := rfl
theorem HasR.enters {P : Program} {g : FuncId} {m : MRFunc} (h : HasR P g m) : k2t P g := by
 obtain ⟨fn, h1, h2, h3⟩ := h
 refine ⟨fn, h1, h2, ?_⟩
 unfold k85 at h3
 split at h3
 ·rename_i c hc; rw [hc]; rfl
 ·cases h3
@[simp] theorem j8f (n k b off : Nat) (l h : Int) (K : PV → Prop) : q89 n k (.val (.pointer (some ⟨b, off, none⟩))) (some l) (some h) none K = (0 ≤ h ∧ h ≤ n ∧ 0 ≤ l ∧ l ≤ h ∧ (l = n → K (.list true [] 0)) ∧ (l < n → K (.own b (off + l.toNat * k) (h.toNat - l.toNat) (n - l.toNat)))) := by
 simp only [q89, q7p, q8t]
 simp
def ClsU (st0 : q5d) (w : Nat) (T : TypeId) (W : List PV) (n : Nat) (st : q5d) : Prop := Cls st0 [w] st ∧ ∃ W', q5w st w = some (.arr T W') ∧ ∀ j, j < n → W'[j]? = W[j]?
theorem ClsU.self {st0 : q5d} {w : Nat} {T : TypeId} {W : List PV} {n : Nat} (h : q5w st0 w = some (.arr T W)) : ClsU st0 w T W n st0 := ⟨Cls.self _ _, W, h, fun _ _ => rfl⟩
@[simp] theorem y4w {st0 : q5d} {w : Nat} {T : TypeId} {W : List PV} {n : Nat} : ClsU ((w, .arr T W) :: st0) w T W n ((w, .arr T W) :: st0) = True := eq_true (ClsU.self (by simp))
theorem ClsU.put {st0 : q5d} {w : Nat} {T : TypeId} {W W' : List PV} {n : Nat} (h : ∀ j, j < n → W'[j]? = W[j]?) : ClsU ((w, .arr T W) :: st0) w T W n ((w, .arr T W') :: st0) :=
 ⟨y4e (by simp) (Cls.self _ _), W', by simp, h⟩
@[simp] theorem j90 {st0 : q5d} {w : Nat} {T : TypeId} {W : List PV} {n off : Nat} {K : PV → Prop} (hn : off < n) : k0y (ClsU ((w, .arr T W) :: st0) w T W n) 1 false (.val (.pointer (some ⟨w, off, none⟩))) K = q5p (W[off]?) K := by
 have key : ∀ st, ClsU ((w, .arr T W) :: st0) w T W n st → ∀ K' : PV → Prop, q7k (.load 1 false (.const (.ptr w off))) (q59 []) st K' ↔ q5p (W[off]?) K' := fun st hst K' => by
  obtain ⟨-, W', h1, h2⟩ := hst
  have h3 := h2 off hn
  simp [q7k, k1t, h1, h3, q5p]
 have h0 : ClsU ((w, .arr T W) :: st0) w T W n ((w, .arr T W) :: st0) := ClsU.self (by simp)
 apply propext
 constructor
 ·rintro ⟨q, h1, h2⟩
  have := (key _ h0 _).1 (h1 _ h0)
  obtain ⟨a, h3, rfl⟩ := this
  exact ⟨a, h3, h2⟩
 ·rintro ⟨a, h3, h4⟩
  exact ⟨a, fun st hst => (key st hst _).2 ⟨a, h3, rfl⟩, h4⟩
def Panics (P : Program) (g : FuncId) (ps : List PV) (st : q5d) (p : PV) : Prop := PCalls P g ps st fun e s => e = .panic p ∧ s = st
theorem Panics.xcall {P : Program} {g : FuncId} {ps : List PV} {st : q5d} {p : PV} (h : Panics P g ps st p) {Q : PEnd → q5d → Prop} (hk : Q (.panic p) st) : xcall P g ps st Q :=
 PCalls.mono h fun e s ⟨h1, h2⟩ => by subst h1; subst h2; exact hk
theorem Has.panics {P : Program} (q5n : P.follows .mixedOrders = true) {g : FuncId} {m : MFunc} (h : Has P g m) {nt np : Nat} {rs : List MRes} {c : MCode} (hm : m = ⟨nt, np, rs, c⟩) {ps : List PV} {st : q5d} {p : PV} (hlen : ps.length = np)
  (hw : xwp P c (fun e s => j2m rs (fun _ _ => False) (fun q st' => q = p ∧ Over st st') e s) ⟨q6y 0 ps, st⟩) : Panics P g ps st p :=
 h.walk q5n hm hlen (fun _ _ h => h.elim) (fun _ _ ⟨h1, h2⟩ => .drop h2.le ⟨by rw [h1], rfl⟩) hw
open Go.ChangeShapes Go.WideShapes Go.Deep Go.RowKit
abbrev Glob := List (Nat × TypeId × List Value)
def k1d : Glob → q5d
 | [] => []
 | (b, T, us) :: gl => (b, .arr T (us.map .val)) :: k1d gl
def z8y (w : World) (gl : Glob) : Imm := fun b => if gl.any (fun g => g.1 == b) then none else w.heap[b]?
def Glob.In (gl : Glob) (w : World) : Prop := ∀ b T us, (b, T, us) ∈ gl → w.heap[b]? = some (.cells us.toArray T (0, 0)) ∧ ∀ v ∈ us, v.oneCell' = true
theorem k6y : ∀ {gl : Glob} {b : Nat} {o : PObj}, q5w (k1d gl) b = some o → ∃ T us, (b, T, us) ∈ gl ∧ o = .arr T (us.map .val)
 | [], _, _, h => by simp [k1d] at h
 | (c, T, us) :: gl, b, o, h => by
  simp only [k1d, q5w] at h
  split at h
  ·rename_i e
   subst e
   cases h
   exact ⟨T, us, by simp, rfl⟩
  ·obtain ⟨T', us', h1, h2⟩ := k6y h
   exact ⟨T', us', by simp [h1], h2⟩
theorem k42 (I : Imm) : ∀ us : List Value, (∀ v ∈ us, v.oneCell' = true) → vcells I (us.map .val) us
 | [], _ => by simp [vcells]
 | u :: us, h => by
  simp only [List.map_cons, vcells]
  exact ⟨⟨by simp [vrep], h u (by simp)⟩, k42 I us fun v hv => h v (by simp [hv])⟩
theorem k4i {I : Imm} : ∀ {us vs : List Value}, vcells I (us.map .val) vs → vs = us
 | [], [], _ => rfl
 | [], _ :: _, h => by simp [vcells] at h
 | _ :: _, [], h => by simp [vcells] at h
 | u :: us, v :: vs, h => by
  simp only [List.map_cons, vcells, vrep] at h
  obtain ⟨⟨rfl, -⟩, h2⟩ := h
  rw [k4i h2]
theorem z43 : ∀ {gl : Glob} {n : Nat}, (∀ b T us, (b, T, us) ∈ gl → b < n) → k2s (k1d gl) n
 | [], _, _ => trivial
 | (c, T, us) :: gl, n, h => ⟨h c T us (by simp), z43 fun b T us hm => h b T us (by simp [hm])⟩
theorem z44 {w : World} {gl : Glob} (h : gl.In w) : SRep (z8y w gl) (k1d gl) w := by
 refine ⟨fun b o hb => ?_, fun b o hb => ?_, z43 fun b T us hm => (Array.getElem?_eq_some_iff.1 (h b T us hm).1).1⟩
 ·unfold z8y at hb
  split at hb
  ·cases hb
  ·exact hb
 ·obtain ⟨T, us, hm, rfl⟩ := k6y hb
  refine ⟨?_, _, (h b T us hm).1, us, rfl, k42 _ us (h b T us hm).2⟩
  unfold z8y
  rw [if_pos (List.any_eq_true.2 ⟨_, hm, by simp⟩)]
theorem z1p : ∀ {gl : Glob} {b : Nat}, gl.any (fun g => g.1 == b) = true → ∃ o, q5w (k1d gl) b = some o
 | [], _, h => by simp at h
 | (c, T, us) :: gl, b, h => by
  simp only [k1d, q5w]
  by_cases e : c = b
  ·exact ⟨_, if_pos e⟩
  ·rw [if_neg e]
   refine z1p ?_
   simpa [e] using h
theorem j0a {w w' : World} {I : Imm} {gl : Glob} (h0 : gl.In w) (h1 : (z8y w gl).le I) (h2 : Calm w w') (h3 : SRep I (k1d gl) w') : Below w.heap.size w w' :=
 ⟨h2.os, h2.tape, h2.output, h2.size, fun k hk => by
  have h : w.heap[k]? = some w.heap[k] := Array.getElem?_eq_getElem hk
  by_cases hg : gl.any (fun g => g.1 == k) = true
  ·obtain ⟨o, ho⟩ := z1p hg
   obtain ⟨T, us, hm, rfl⟩ := k6y ho
   obtain ⟨-, r, hr, vs, rfl, hv⟩ := h3.objs k _ ho
   rw [hr, (h0 k T us hm).1, k4i hv]
  ·have : z8y w gl k = some w.heap[k] := by unfold z8y; rw [if_neg hg, h]
   rw [h, h3.imm k _ (h1 k _ this)]⟩
theorem Has.bridgeG {P : Program} {g : FuncId} {m : MFunc} (hg : Has P g m) {gl : Glob} {ps : List PV} (h : Rets P g ps (k1d gl) (.bool true)) {w : World} (hw : gl.In w) {vs : List Value} (hv : vreps (z8y w gl) ps vs) :
  Calls P g vs.toArray w fun e w' => e = .returned (.bool true) ∧ Below w.heap.size w w' := by
 have hp : PEnter P g ps (k1d gl) fun e s => e = .ret (.bool true) ∧ s = k1d gl := by
  rcases h with h | h
  ·exact h
  ·obtain ⟨v, w', h3, -⟩ := h.out _ w vs (z44 hw) hv
   rw [q83 hg.enters] at h3
   cases h3
 refine (hp.out _ w vs (z44 hw) hv).mono fun e w' hh => ?_
 obtain ⟨I', st', a, b, c, pe, d, rfl, rfl⟩ := hh
 obtain ⟨v, rfl, hv⟩ := d
 simp only [vrep] at hv
 subst hv
 exact ⟨rfl, j0a hw a b c⟩
section
variable {H : Type} {enc : TypeId × Value → H} {P : Program} {w : World} {base : Nat} {spare : Nat → Bool} {held : Bool}
def Off (w : World) (gl : Glob) (p : Value → Prop) : Prop := ∀ b off c, gl.any (fun g => g.1 == b) = true → w.cell? ⟨b, off, none⟩ = some c → p c
theorem z6y {n : Nat} {t e : TypeId} (hs : P.underlying t = some (.array n e)) (he : P.underlying e = some (.int .u8)) (hc : P.cellsOf e = 1) (ht : P.cellsOf t = n)
  {fuel : Nat} {cs : List Value} {x : DataW H × List MemPlace} (h : DataW.trod enc P w base spare held fuel t cs = some x) : ∃ l : List (BitVec 8), l.length = n ∧ cs = l.map fun b => Value.int .u8 b.toNat := by
 obtain ⟨xs, m, rfl, rfl, hcl, hxl, hx⟩ := DataW.trod_array hs h
 rw [ht] at hcl
 rw [hc] at hx
 refine ⟨cs.map fun c => match c with | .int .u8 k => BitVec.ofInt 8 k | _ => 0#8, by simp [hcl], ?_⟩
 refine List.ext_getElem (by simp) fun i hi hi2 => ?_
 have h1 := hx i (by omega)
 rw [Nat.mul_one] at h1
 have h2 : (cs.drop i).take 1 = [cs[i]] := by
  rw [List.drop_eq_getElem_cons hi]; rfl
 rw [h2] at h1
 rw [List.getElem?_eq_getElem (by omega)] at h1
 obtain ⟨k, hk, -, hwf⟩ := DataW.trod_int he h1
 have hk' : cs[i] = .int .u8 k := by simpa using hk
 simp only [List.getElem_map, hk']
 have hw : 0 ≤ k ∧ k ≤ 255 := by
  simp [Lit.wf, IntKind.min, IntKind.max, IntKind.bits, IntKind.signed] at hwf
  omega
 congr 1
 rw [BitVec.toNat_ofInt]
 omega
theorem z45 {k : IntKind} {n : Nat} {t e : TypeId} (hs : P.underlying t = some (.array n e)) (he : P.underlying e = some (.int k)) (hc : P.cellsOf e = 1) (ht : P.cellsOf t = n) {ls : List Int}
  {fuel : Nat} {cs : List Value} {p : List MemPlace} (h : DataW.trod enc P w base spare held fuel t cs = some (.agg (ls.map fun x => .lit (.int k x)), p)) : cs = ls.map (Value.int k) := by
 obtain ⟨xs, m, rfl, hx0, hcl, hxl, hx⟩ := DataW.trod_array hs h
 rw [ht] at hcl
 rw [hc] at hx
 simp only [Prod.mk.injEq, DataW.agg.injEq] at hx0
 have hls : ls.length = xs.length := by have := congrArg List.length hx0.1; simpa using this
 refine List.ext_getElem (by simp; omega) fun i hi hi2 => ?_
 have h1 := hx i (by omega)
 rw [Nat.mul_one] at h1
 have h2 : (cs.drop i).take 1 = [cs[i]] := by
  rw [List.drop_eq_getElem_cons hi]; rfl
 rw [h2, List.getElem?_eq_getElem (by omega)] at h1
 obtain ⟨v, hv, hxv, -⟩ := DataW.trod_int he h1
 have e1 : cs[i] = .int k v := by simpa using hv
 have e2 : (ls.map fun x => (DataW.lit (.int k x) : DataW H))[i]'(by simpa using hi2) = (xs.map (·.1))[i]'(by simp; omega) := by
  simp only [hx0.1]
 simp only [List.getElem_map, hxv, DataW.lit.injEq, Lit.int.injEq, true_and] at e2
 simp only [List.getElem_map, e1, e2]
end
theorem z1q {P : Program} {w : World} (hsh : w.ShapedOpen P) {g : Nat} {zero : List Value} {t : TypeId} {cs : Array Value} {n : String} (hg : g < P.globals.size)
  (h0 : ((((begin P (fun _ _ => 0) default).world.heap[g]?).bind Obj.row?).map fun r => (r.1.toList, r.2)) = some (zero, t)) (hn : P.globalNamed n = some g) (hv : w.var? P n = some cs) : w.heap[g]? = some (.cells cs t (0, 0)) := by
 cases hr : (((begin P (fun _ _ => 0) default).world.heap[g]?).bind Obj.row?) with
 | none => rw [hr] at h0; cases h0
 | some r =>
  rw [hr] at h0
  simp only [Option.map_some, Option.some.injEq, Prod.mk.injEq] at h0
  obtain ⟨cs', h1, -, -⟩ := hsh.1 g r.1 t hg (by rw [hr, ← h0.2])
  simp only [World.var?, hn, Option.bind_some, h1, Option.some.injEq] at hv
  rw [h1, hv]
theorem q9b {H : Type} {enc : TypeId × Value → H} {a : Assume} {C : Checked} {os : Os} {f : FuncId} {fn : Func} {s : ChangeSpec} {conds : List PathCond} {apart fresh handsOn again : Bool} {X : World → Array Value → Prop}
  (hX : ∀ (w w' : World) (args : Array Value), w.heap = w'.heap → X w args → X w' args)
  (own : ownKnob C.prog.godebug = none) (started : os.Started) (noInit : C.prog.inits.idxOf? f = none) (hfn : C.prog.funcs[f]? = some fn)
  (witness : ∃ (w : World) (tape : Tape) (i : Input), w.os = os ∧ (w.forCall tape i).Shaped C.prog ∧ i.vars = [] ∧ Input.okWide C.prog (w.forCall tape i) .any w.heap.size f i ∧
   ((s.pre enc C.prog fn conds apart (w.forCall tape i).memory i.args ∧ X (w.forCall tape i).memory i.args) ∧ sizedMet enc C.prog fn (OpenSpec.ofChange s) apart (w.forCall tape i).memory i.args) ∧ a.holds C.prog (lone (Frame.enter C.prog f i.args .normal) [] (w.forCall tape i)))
  (contract : ∀ (W : World) (base : Nat) (args : Array Value) (ds gs : List (DataW H)) (before : List MemPlace), W.ShapedOpen C.prog →
   (∀ (j : Nat) t v, fn.params[j]? = some t → args[j]? = some v → Value.okWide C.prog W .any base t v) →
   DataW.Whole enc C.prog fn.params.toList s.vars apart W args.toList ds gs before →
   conds.all (PathCond.test C.prog ⟨fn.params.toList, ds, s.plain.varTypes C.prog, gs⟩) = true →
   (DataW.weightsEach C.prog (fn.params.toList ++ s.plain.varTypes C.prog) (ds ++ gs)).all (· ≤ reachBytes) = true → X W args →
   Calls C.prog f args W fun e W' => ∃ v, e = .returned v ∧ s.post enc C.prog fn apart fresh handsOn again W args v W') :
  ReturnsInHanded a C os f .any (fun w args => (s.pre enc C.prog fn conds apart w args ∧ X w args) ∧ sizedMet enc C.prog fn (OpenSpec.ofChange s) apart w args) (s.post enc C.prog fn apart fresh handsOn again) := by
 refine returnsInHanded_of_calls own started noInit witness ?_
 intro w tape i _ hsh _ hok hpre _
 obtain ⟨_, _, _, fn', hfn', _, _, _, _, hval⟩ := hok
 have e : fn' = fn := Option.some.inj (hfn'.symm.trans hfn)
 subst e
 obtain ⟨⟨⟨ds, gs, before, hw, hc⟩, hx⟩, hz⟩ := hpre
 have hw' := DataW.Whole.of_heap (w' := w.forCall tape i) (by rfl) hw
 refine (contract (w.forCall tape i) w.heap.size i.args ds gs before hsh hval hw' hc (hz.weights hw) (hX _ _ _ (by rfl) hx)).mono fun e W' ⟨v, he, hp⟩ => ?_
 subst he
 exact ChangeSpec.post_blind hp
open Go.ChangeShapes Go.WideShapes Go.Deep Go.RowKit
theorem k7r {I : Imm} {α : Type} {f : α → List PV} {g : α → List Value} : ∀ {l : List α}, (∀ x ∈ l, vcells I (f x) (g x)) → vcells I (l.flatMap f) (l.flatMap g)
 | [], _ => by simp [vcells]
 | x :: l, h => by
  simp only [List.flatMap_cons]
  exact q7g (h x (by simp)) (k7r fun y hy => h y (by simp [hy]))
section
variable {H : Type} (enc : TypeId × Value → H) (P : Program) (w : World) (base : Nat) (spare : Nat → Bool) (held : Bool) (gl : Glob)
structure Opens {A : Type} (t : TypeId) (k : Nat) (row : A → List PV) (ok : A → Prop) : Prop where
 cells : P.cellsOf t = k
 op : ∀ {fuel : Nat} {cs : List Value} {y : DataW H × List MemPlace}, DataW.trod enc P w base spare held fuel t cs = some y → ∃ a : A, ok a ∧ vcells (z8y w gl) (row a) cs ∧ cs.length = k
structure OpensFs {A : Type} (fs : List Field) (off k : Nat) (row : A → List PV) (ok : A → Prop) : Prop where
 op : ∀ {fuel : Nat} {cs : List Value}, off + k ≤ cs.length → (∀ (j : Nat) f, fs[j]? = some f → ∃ y, DataW.trod enc P w base spare held fuel f.type ((cs.drop f.offset).take (P.cellsOf f.type)) = some y) →
  ∃ a : A, ok a ∧ vcells (z8y w gl) (row a) ((cs.drop off).take k)
end
section
variable {H : Type} {enc : TypeId × Value → H} {P : Program} {w : World} {base : Nat} {spare : Nat → Bool} {held : Bool} {gl : Glob}
theorem Opens.i64 {t : TypeId} (hs : P.underlying t = some (.int .i64)) (hc : P.cellsOf t = 1) : Opens enc P w base spare held gl t 1 (fun n : Int => [.int n]) I64 :=
 ⟨hc, fun h => by
  obtain ⟨k, rfl, -, hwf⟩ := DataW.trod_int hs h
  exact ⟨k, .of_wf hwf, by simp [vcells, vrep, Value.oneCell'], rfl⟩⟩
theorem Opens.conv {A B : Type} {t : TypeId} {k : Nat} {row : A → List PV} {ok : A → Prop} {row' : B → List PV} {ok' : B → Prop} (h : Opens enc P w base spare held gl t k row ok) (f : A → B) (hr : ∀ a, row' (f a) = row a) (hk : ∀ a, ok a → ok' (f a)) :
  Opens enc P w base spare held gl t k row' ok' :=
 ⟨h.cells, fun hy => by
  obtain ⟨a, h1, h2, h3⟩ := h.op hy
  exact ⟨f a, hk a h1, by rw [hr]; exact h2, h3⟩⟩
theorem OpensFs.nil {off : Nat} : OpensFs enc P w base spare held gl [] off 0 (fun _ : Unit => []) (fun _ => True) :=
 ⟨fun _ _ => ⟨(), trivial, by simp [vcells]⟩⟩
theorem OpensFs.cons {A B : Type} {f : Field} {fs : List Field} {off k m : Nat} {rA : A → List PV} {kA : A → Prop} {rB : B → List PV} {kB : B → Prop} (ho : f.offset = off)
  (h1 : Opens enc P w base spare held gl f.type k rA kA) (h2 : OpensFs enc P w base spare held gl fs (off + k) m rB kB) :
  OpensFs enc P w base spare held gl (f :: fs) off (k + m) (fun x : A × B => rA x.1 ++ rB x.2) (fun x => kA x.1 ∧ kB x.2) :=
 ⟨fun {fuel cs} hl h => by
  obtain ⟨y, hy⟩ := h 0 f rfl
  rw [h1.cells, ho] at hy
  obtain ⟨a, a1, a2, a3⟩ := h1.op hy
  obtain ⟨b, b1, b2⟩ := h2.op (cs := cs) (fuel := fuel) (by omega) fun j g hg => h (j + 1) g (by simpa using hg)
  refine ⟨(a, b), ⟨a1, b1⟩, ?_⟩
  have e : (cs.drop off).take (k + m) = (cs.drop off).take k ++ (cs.drop (off + k)).take m := by
   rw [List.take_add, List.drop_drop]
  rw [e]
  exact q7g a2 b2⟩
theorem Opens.struct {A : Type} {t : TypeId} {k : Nat} {fs : Array Field} {row : A → List PV} {ok : A → Prop} (hs : P.underlying t = some (.struct fs)) (hc : P.cellsOf t = k) (h : OpensFs enc P w base spare held gl fs.toList 0 k row ok) :
  Opens enc P w base spare held gl t k row ok :=
 ⟨hc, fun {fuel cs y} hy => by
  obtain ⟨xs, m, _, _, h4, h5, h6⟩ := DataW.trod_struct hs hy
  rw [hc] at h4
  obtain ⟨a, a1, a2⟩ := h.op (cs := cs) (fuel := m) (by omega) fun j f hf => by
   have hf' : fs[j]? = some f := by simpa using hf
   have := h6 j f hf'
   have hj : j < fs.size := (Array.getElem?_eq_some_iff.1 hf').1
   rw [List.getElem?_eq_getElem (by omega)] at this
   exact ⟨_, this⟩
  rw [List.drop_zero, List.take_of_length_le (by omega)] at a2
  exact ⟨a, a1, a2, h4⟩⟩
def OffE (enc : TypeId × Value → H) (P : Program) (w : World) (base : Nat) (spare : Nat → Bool) (held : Bool) (gl : Glob) (e : TypeId) : Prop :=
 ∀ (b off fuel : Nat) (cs : List Value) (y : DataW H × List MemPlace), gl.any (fun g => g.1 == b) = true → (∀ j, j < cs.length → w.cell? ⟨b, off + j, none⟩ = cs[j]?) → DataW.trod enc P w base spare held fuel e cs = some y → False
theorem Opens.slice {A : Type} [Inhabited A] {t e : TypeId} {k : Nat} {row : A → List PV} {ok : A → Prop} (hoff : OffE enc P w base spare held gl e) (hs : P.underlying t = some (.slice e)) (ht : P.cellsOf t = 1) (hk : 0 < k) (hE : Opens enc P w base spare held gl e k row ok) :
  Opens enc P w base spare held gl t 1 (fun l : List A => [.list false (l.flatMap row) l.length]) (fun l => ∀ x ∈ l, ok x) :=
 ⟨ht, fun {fuel cs y} h => by
  rcases open_slice hs h with ⟨rfl, -⟩ | ⟨a, len, cap, m, n, D, Pl, rfl, -, hl, hm, hmm, hxe, hx⟩
  ·exact ⟨[], by simp, by
    simp only [vcells, List.flatMap_nil, List.length_nil]
    exact ⟨⟨(PLe.trans .nil .loose : PLe .nil (.list false [] 0)) _ _ (by simp only [vrep]), rfl⟩, trivial⟩, rfl⟩
  ·have hlm : len ≤ m := by rw [hmm]; split <;> omega
   obtain ⟨f, hf⟩ := choose_lt (α := A × List Value) (p := fun i q => ok q.1 ∧ vcells (z8y w gl) (row q.1) q.2 ∧ q.2.length = k ∧ (∀ j, j < k → w.cell? (a.add (i * k + j)) = q.2[j]?) ∧ ∃ y, DataW.trod enc P w base spare held n e q.2 = some y) (n := len) fun i hi => by
    obtain ⟨cs', g1, g2⟩ := hx i (by omega)
    obtain ⟨-, g6, g7⟩ := World.cells?_some g1
    rw [hE.cells] at g7
    obtain ⟨a', k1, k2, k3⟩ := hE.op g2
    refine ⟨(a', cs'), k1, k2, k3, fun j hj => ?_, _, g2⟩
    have := g7 j hj
    rw [add_add] at this
    exact this
   refine ⟨(List.range len).map fun i => (f i).1, fun x hx => ?_, ?_, rfl⟩
   ·obtain ⟨i, hi, rfl⟩ := List.mem_map.1 hx
    exact (hf i (List.mem_range.1 hi)).1
   simp only [vcells, vrep, List.length_map, List.length_range]
   refine ⟨⟨⟨some a, cap, (List.range len).flatMap fun i => (f i).2, rfl, by simpa using hl, hm, by simp, ?_, ?_⟩, rfl⟩, trivial⟩
   ·rw [List.flatMap_map]
    exact k7r fun i hi => (hf i (List.mem_range.1 hi)).2.1
   ·by_cases h0 : len = 0
    ·left; subst h0; rfl
    ·right
     obtain ⟨-, -, l0, c0, y0, hy0⟩ := hf 0 (by omega)
     have hsp : a.spot = none := by
      have := c0 0 hk
      rw [List.getElem?_eq_getElem (by omega)] at this
      have := World.cell?_spot this
      obtain ⟨x, y, z⟩ := a
      simpa [Addr.add] using this
     obtain ⟨b, off, spot⟩ := a
     subst hsp
     refine ⟨b, off, rfl, ?_⟩
     have hadd : ∀ q, (⟨b, off, none⟩ : Addr).add q = ⟨b, off + q, none⟩ := fun q => by
      unfold Addr.add
      by_cases hq : q = 0 <;> simp [hq]
     have hb : ¬ gl.any (fun g => g.1 == b) = true := fun hb => hoff b off n (f 0).2 y0 hb (fun j hj => by
      have := c0 j (by omega)
      rw [hadd] at this
      simpa using this) hy0
     have hF : ∀ i ∈ List.range len, ((fun i => (f i).2) i).length = k := fun i hi => (hf i (List.mem_range.1 hi)).2.2.1
     have hcell : ∀ j v, ((List.range len).flatMap fun i => (f i).2)[j]? = some v → w.cell? ⟨b, off + j, none⟩ = some v := by
      intro j v hj
      have hjl := (List.getElem?_eq_some_iff.1 hj).1
      rw [z26 _ k _ hF] at hjl
      simp only [List.length_range] at hjl
      have hq : j / k < len := (Nat.div_lt_iff_lt_mul hk).2 hjl
      have hr : j % k < k := Nat.mod_lt _ hk
      have he : j / k * k + j % k = j := by rw [Nat.mul_comm]; exact Nat.div_add_mod j k
      have h1 := j2v (fun i => (f i).2) k _ (j / k) (j % k) hF hr (by simpa using hq)
      rw [he, hj] at h1
      simp only [List.getElem_range] at h1
      have h2 := (hf (j / k) hq).2.2.2.1 (j % k) hr
      rw [hadd, he] at h2
      rw [h2, h1]
     cases hv : ((List.range len).flatMap fun i => (f i).2) with
     | nil =>
      have := z26 (fun i => (f i).2) k _ hF
      rw [hv] at this
      simp only [List.length_nil, List.length_range] at this
      have := Nat.mul_pos (Nat.pos_of_ne_zero h0) hk
      omega
     | cons v0 vs0 =>
      obtain ⟨arr, T, fz, g1, -⟩ := k41 (hcell 0 v0 (by rw [hv]; rfl))
      refine ⟨arr, T, fz, by unfold z8y; rw [if_neg hb]; exact g1, fun j v hj => ?_⟩
      rw [← hv] at hj
      obtain ⟨arr', T', fz', g2, g3⟩ := k41 (hcell j v hj)
      have g1' : w.heap[b]? = some (.cells arr T fz) := g1
      have g2' : w.heap[b]? = some (.cells arr' T' fz') := g2
      rw [g1'] at g2'
      cases g2'
      exact g3⟩
theorem Opens.argS {A : Type} {t : TypeId} {k : Nat} {row : A → List PV} {ok : A → Prop} (h : Opens enc P w base spare held gl t k row ok) {fs : Array Field} (hs : P.underlying t = some (.struct fs)) {r : Reach} {b0 : Nat} {v : Value} {d : DataW H} {p : List MemPlace}
  (hv : Value.okWide P w r b0 t v) (hd : DataW.Trod enc P w base spare held t v d p) : ∃ a : A, ok a ∧ vrep (z8y w gl) (.agg (row a)) v := by
 obtain ⟨cs, rfl, -⟩ := okWide_struct hs hv
 obtain ⟨fuel, hf⟩ := hd
 have hf' : DataW.trod enc P w base spare held fuel t cs.toList = some (d, p) := hf
 obtain ⟨a, h1, h2, -⟩ := h.op hf'
 exact ⟨a, h1, by simp only [vrep]; exact ⟨cs.toList, by simp, h2⟩⟩
end
theorem ints_flat (l : List Int) : l.flatMap (fun n => [PV.int n]) = l.map PV.int := by
 induction l with
 | nil => rfl
 | cons a l ih => rw [List.flatMap_cons, ih]; rfl
open Go.ChangeShapes Go.WideShapes Go.Deep Go.RowKit
section
variable {H : Type} {enc : TypeId × Value → H} {P : Program} {w : World} {base : Nat} {spare : Nat → Bool} {held : Bool} {gl : Glob}
end
mutual
def PV.wide : PV → Prop
 | .list _ cs n => n ≤ 9223372036854775807 ∧ PV.wides cs
 | .agg cs => PV.wides cs
 | _ => True
def PV.wides : List PV → Prop
 | [] => True
 | p :: ps => p.wide ∧ PV.wides ps
end
mutual
theorem z46 {I : Imm} : ∀ (p : PV) (v : Value), vrep I p v → p.wide
 | .any, _, _ => by simp only [PV.wide]
 | .val _, _, _ => by simp only [PV.wide]
 | .agg cs, v, hr => by
  simp only [vrep] at hr
  simp only [PV.wide]
  obtain ⟨vs, -, h2⟩ := hr
  exact k43 cs vs h2
 | .tuple _, _, _ => by simp only [PV.wide]
 | .list tight cs n, v, hr => by
  simp only [vrep] at hr
  simp only [PV.wide]
  obtain ⟨a, cap, vs, -, h2, h3, -, h5, -⟩ := hr
  exact ⟨by unfold maxLen at h3; omega, k43 cs vs h5⟩
 | .iptr _ _, _, _ => by simp only [PV.wide]
 | .imap _ _, _, _ => by simp only [PV.wide]
 | .func _ _ _, _, _ => by simp only [PV.wide]
 | .iface _ _, _, _ => by simp only [PV.wide]
theorem k43 {I : Imm} : ∀ (ps : List PV) (vs : List Value), vcells I ps vs → PV.wides ps
 | [], _, _ => by simp only [PV.wides]
 | _ :: _, [], hr => by simp [vcells] at hr
 | p :: ps, v :: vs, hr => by
  simp only [vcells] at hr
  simp only [PV.wides]
  exact ⟨z46 p v hr.1.1, k43 ps vs hr.2⟩
end
theorem Sound.wide {ps : List PV} {st : q5d} (h : Sound ps st) {p : PV} (hm : p ∈ ps) : p.wide := by
 obtain ⟨I, w, vs, -, hv⟩ := h
 obtain ⟨v, hv⟩ := z4u hv hm
 exact z46 p v hv
end Go.Pv
