/- Rows of one's own that are seen as lists from a round's head on. -/
import Derived.Test.YtnooplpbpfiapaaGreatDoorLBr
namespace Go.Pv
theorem j2w {e : Env} {t : Nat} : q6g e t = .any ∨ ∃ q ∈ e, q.1 = t ∧ q6g e t = q.2 := by
 induction e with
 | nil => exact .inl rfl
 | cons p e ih =>
  obtain ⟨u, p⟩ := p
  simp only [q6g]
  split
  ·rename_i h; exact .inr ⟨(u, p), by simp, h, rfl⟩
  ·rcases ih with h | ⟨q, h1, h2, h3⟩
   ·exact .inl h
   ·exact .inr ⟨q, by simp [h1], h2, h3⟩
theorem View.frz {e e' : Env} {st st' : q5d} {b : Nat} {o : PObj} (hb : q6u st' b) (hs : StLe ((b, o) :: st') st) (he : ∀ q ∈ e', Frz b o (q6g e q.1) q.2) : View ⟨e, st⟩ ⟨e', st'⟩ := fun I tm w h1 h2 => by
 obtain ⟨I', h3, h4, h5⟩ := (h2.le hs).freeze hb
 refine ⟨I', h3, fun t => ?_, h4⟩
 rcases j2w (e := e') (t := t) with h | ⟨q, hq, rfl, h⟩
 ·simp only [h, vrep]
 ·simp only [h]
  exact (he q hq).vrep h5 (q7f h3 _ _ (h1 q.1))
theorem View.ple {e e' : Env} {st st' : q5d} (hs : StLe st' st) (he : ∀ q ∈ e', PLe (q6g e q.1) q.2) : View ⟨e, st⟩ ⟨e', st'⟩ := fun I tm w h1 h2 =>
 ⟨I, I.le_refl, fun t => by
  rcases j2w (e := e') (t := t) with h | ⟨q, hq, rfl, h⟩
  ·simp only [h, vrep]
  ·simp only [h]
   exact he q hq I _ (h1 q.1), h2.le hs⟩
theorem PLe.of_eq {p q : PV} (h : p = q) : PLe p q := h ▸ .refl p
theorem PLe.nil1 : PLe .nil (.list false [] 0) := .trans .nil .loose
theorem Frz.of_eq {b : Nat} {o : PObj} {p q : PV} (h : p = q) : Frz b o p q := h ▸ .refl p
theorem Frz.acc {α : Type} {row : List α → List PV} {k : Nat} {T : TypeId} {a : Acc α} (ha : a.Ok row k) : Frz a.b (.arr T a.R) (.own a.b 0 a.l.length a.cap) (.list false (row a.l) a.l.length) := by
 have h := Frz.own (b := a.b) (o := .arr T a.R) T a.R 0 a.l.length a.cap k rfl ha.le ha.cap
 rwa [List.drop_zero, ha.row] at h
theorem z1o {P : Program} {c : MCode} {Q : q7l} {e : Env} {st : q5d} {σ : Type} (E : σ → Env) (S : σ → q5d) (inv : σ → Prop) (μ : σ → Nat) (x0 : σ) (h0 : inv x0) (hv : View ⟨e, st⟩ ⟨E x0, S x0⟩)
  (h : ∀ x, inv x → xwp P c (fun e s => k4z (fun s1 => Next E S inv μ x s1) Q e s) ⟨E x, S x⟩) : j5t P c Q ⟨e, st⟩ := by
 refine ⟨fun n s => ∃ x, inv x ∧ μ x = n ∧ s = ⟨E x, S x⟩, ⟨μ x0, ⟨E x0, S x0⟩, hv, x0, h0, rfl, rfl⟩, ?_⟩
 rintro n s ⟨x, hx, rfl, rfl⟩
 have hh := h x hx
 have e1 : (fun e s => k4z (fun s1 => Next E S inv μ x s1) Q e s) = z53 (fun s1 => Next E S inv μ x s1) Q := rfl
 have e2 : (fun s1 => Next E S inv μ x s1) = (fun s1 => ∃ m, m < μ x ∧ ∃ s', View s1 s' ∧ ∃ y, inv y ∧ μ y = m ∧ s' = ⟨E y, S y⟩) := by
  funext s1
  refine propext ⟨fun ⟨y, h1, h2, h3⟩ => ⟨μ y, h2, _, h3, y, h1, rfl, rfl⟩, fun ⟨m, h1, s', h2, y, h3, h4, h5⟩ => ?_⟩
  subst h4; subst h5
  exact ⟨y, h3, h1, h2⟩
 rw [e1, e2] at hh
 exact hh
theorem q6m {st : q5d} {b c : Nat} {o : PObj} (h : q6u st b) (hc : q5w st c = some o) : ¬ b = c ∧ ¬ c = b := by
 have : ¬ b = c := by rintro rfl; rw [k3v h] at hc; cases hc
 exact ⟨this, fun e => this e.symm⟩
theorem PCalls.le {P : Program} {g : FuncId} {ps : List PV} {st st' : q5d} {Q : PEnd → q5d → Prop} (hle : StLe st st') (h : PCalls P g ps st Q) : PCalls P g ps st' Q :=
 h.imp (fun h => ⟨h.enters, fun I w vs h1 h2 => h.out I w vs (h1.le hle) h2⟩) (fun h => ⟨fun I w vs h1 h2 => h.out I w vs (h1.le hle) h2⟩)
theorem PRound.le {P : Program} {l : Nat} {ps : List PV} {st st' : q5d} {Q : PEnd → q5d → Prop} (hle : StLe st st') (h : PRound P l ps st Q) : PRound P l ps st' Q :=
 ⟨fun I w vs h1 h2 => h.out I w vs (h1.le hle) h2⟩
theorem z6v {P : Program} {l : Nat} {ps : List PV} {st : q5d} {R Q : PEnd → q5d → Prop} (h : PRound P l ps st R) (k : ∀ e s, R e s → Q e s) : j7u P l ps st Q := PRound.mono h k
theorem PRound.shrink {P : Program} {l : Nat} {ps : List PV} {st : q5d} {Q : PEnd → q5d → Prop} (h : PRound P l ps st fun e s => ∃ s', StLe s' s ∧ Q e s') : PRound P l ps st Q :=
 ⟨fun I w vs h1 h2 => by
  obtain ⟨r, h3, h4, h5⟩ := h.out I w vs h1 h2
  exact ⟨r, h3, h4, h5.mono fun _ _ ⟨I', st', a, b, c, pe, d, s', e, q⟩ => ⟨I', s', a, b, c.le e, pe, d, q⟩⟩⟩
def y4s (P : Program) (g : FuncId) (fs cs : List PV) (xs : List PV) : Prop :=
 ∀ (σ : Type) (S : σ → q5d) (inv : List PV → σ → Prop) (l : Nat),
  (∀ pre x s, inv pre s → pre ++ [x] <+: xs → PRound P l [x] (S s) fun e st' => e = .ret (.bool true) ∧ ∃ s', inv (pre ++ [x]) s' ∧ st' = S s') →
  ∀ s, inv [] s → PCalls P g (fs ++ [.func (.yield l) [] []] ++ cs) (S s) fun e st' => e = .ret (.tuple []) ∧ ∃ s', inv xs s' ∧ st' = S s'
theorem k9c {α β : Type} {f : α → β} {pre : List α} {p : List β} {x : β} {xs : List α} (_hp : pre.map f = p) (h : p ++ [x] <+: xs.map f) : ∃ y, f y = x ∧ y ∈ xs := by
 have : x ∈ xs.map f := h.subset (by simp)
 obtain ⟨y, h1, h2⟩ := List.mem_map.1 this
 exact ⟨y, h2, h1⟩
theorem z41 {P : Program} (q5n : P.follows .mixedOrders = true) {l : Nat} {key : LoopKey} {params : List Nat} {ma mb : MCode} (hconv : key.Conv P params ma mb) {e : Env} {st : q5d} (hget : q5w st l = some (.loop key e .ready none))
  {args : List PV} (hlen : params.length = args.length) {Q : PEnd → q5d → Prop} (h : xwp P ma (fun ex s => k40 P l mb (fun e s => ∃ s', StLe s' s ∧ Q e s') ex s) ⟨k8z e params args, st⟩) : PRound P l args st Q := .shrink (z6r q5n hconv hget hlen h)
def accQ {α : Type} : Option (Acc α) → PV
 | none => .list true [] 0
 | some a => .own a.b 0 a.l.length a.cap
theorem k1b {α : Type} {row : List α → List PV} {k : Nat} (hrl : ∀ l, (row l).length = l.length * k) (hra : ∀ l m, row (l ++ m) = row l ++ row m) {T : TypeId} {bytes : Nat} {st : q5d} {K : PV → q5d → Prop}
  (o : Option (Acc α)) (ho : accOk row k st o) (xs : List α) {new : List PV} {m : Nat} (hnew : row xs = new) (hm : xs.length = m) (hsz : ((q5y o).length + m) * bytes ≤ 140737488355328)
  (h : ∀ o' : Option (Acc α), accOk row k st o' → q5y o' = q5y o ++ xs → K (accQ o') (q6o T st o')) : q6p T bytes k (accQ o) new m (q6o T st o) K := by
 cases o with
 | none =>
  show q6p T bytes k (.list true [] 0) new m st K
  rw [q5f]
  refine ⟨fun e => ?_, fun e => ⟨rfl, by simp, ?_⟩⟩
  ·have : xs = [] := by rw [← List.length_eq_zero_iff, hm, e]
   subst this
   exact h none trivial (by simp)
  ·subst hnew; subst hm
   refine .intro (by simpa using hsz) fun b' cap' h1 h2 h3 => ?_
   have := k89 (k := k) (n := 0) (m := xs.length) (cap := cap') (cs := []) (by simp) (hrl xs) (by omega)
   simp only [List.nil_append, Nat.zero_add] at this h2 ⊢
   exact h (some ⟨xs, b', cap', row xs ++ List.replicate ((cap' - xs.length) * k) .any⟩) ⟨⟨h2, h3, this.1, this.2⟩, h1⟩ (by simp)
 | some a =>
  obtain ⟨ha, hb⟩ := ho
  refine q7i hrl hra ha (by simp) xs hnew hm hsz fun a' ha' hl' hb' => ?_
  have e : k20 a.b (q6o T st (some a)) = st := by simp [q7x hb]
  rw [e] at hb' ⊢
  exact h (some a') ⟨ha', hb'⟩ hl'
theorem q9m {α : Type} {row : List α → List PV} {k : Nat} {T : TypeId} {st st0 : q5d} {M : List Nat} {o : Option (Acc α)} (ho : accOk row k st o) (h : Cls st0 M st) : Cls st0 M (q6o T st o) := by
 cases o with
 | none => exact h
 | some a => exact j2q ho.2 h
theorem RetView.accQ2 {α : Type} {row : List α → List PV} {k : Nat} (hr0 : row [] = []) {T : TypeId} {st : q5d} {o : Option (Acc α)} (ho : accOk row k st o) {r : PV} {Q : PEnd → q5d → Prop} (h : RetView .ret (.tuple [.list false (row (q5y o)) (q5y o).length, r]) st Q) :
  RetView .ret (.tuple [accQ o, r]) (q6o T st o) Q := by
 cases o with
 | none => simp only [q92, hr0, List.length_nil] at h; exact .loose2 h
 | some a => exact .freeze _ ho.2 (.tuple (.cons (Frz.acc ho.1) (.cons (.refl r) .nil))) h
theorem RetView.accP2 {α : Type} {row : List α → List PV} {k : Nat} (hr0 : row [] = []) {T : TypeId} {st : q5d} {o : Option (Acc α)} (ho : accOk row k st o) {r : PV} {Q : PEnd → q5d → Prop} (h : RetView .ret (.tuple [.list false (row (q5y o)) (q5y o).length, r]) st Q) :
  RetView .ret (.tuple [k1p o, r]) (q6o T st o) Q := by
 cases o with
 | none => simp only [q92, hr0, List.length_nil] at h; exact .nil2 h
 | some a => exact .freeze _ ho.2 (.tuple (.cons (Frz.acc ho.1) (.cons (.refl r) .nil))) h
theorem RetView.accP1 {α : Type} {row : List α → List PV} {k : Nat} (hr0 : row [] = []) {T : TypeId} {st : q5d} {o : Option (Acc α)} (ho : accOk row k st o) {Q : PEnd → q5d → Prop} (h : RetView .ret (.list false (row (q5y o)) (q5y o).length) st Q) :
  RetView .ret (k1p o) (q6o T st o) Q := by
 cases o with
 | none => simp only [q92, hr0, List.length_nil] at h; exact .nil1 h
 | some a => exact .freeze _ ho.2 (Frz.acc ho.1) h
def KM.wf {κ α : Type} (m : List (κ × α)) : Prop := (m.map (·.1)).Nodup
structure KeyOf (κ : Type) [DecidableEq κ] where
 kv : κ → Value
 kp : KP
 ok : ∀ x y, q6c kp.2 (q6i kp.1 (kv x)) (q6i kp.1 (kv y)) = some (decide (x = y))
abbrev KM (κ α : Type) := List (κ × α)
section
variable {κ α : Type} [DecidableEq κ] (K : KeyOf κ) (pv : α → PV) (m : KM κ α)
def KM.ks : List Value := (m.map (·.1)).map K.kv
def KM.vs : List PV := (m.map (·.2)).map pv
def KM.obj : PObj := .map (m.ks K) (m.vs pv)
def KM.at? (s : κ) : Option Nat := (m.map (·.1)).findIdx? fun y => decide (s = y)
def KM.put (s : κ) (y : α) : KM κ α := match m.at? s with | some j => m.set j (s, y) | none => m ++ [(s, y)]
end
section
variable {κ α : Type} [DecidableEq κ] {K : KeyOf κ} {pv : α → PV} {m : KM κ α}
theorem KM.idx (x : κ) : k2z K.kp (K.kv x) (m.ks K) = some (m.at? x) := z8x _ _ K.ok x _
theorem KM.xput_eq (b : Nat) (s : κ) (y : α) (st : q5d) (C : PV → q5d → Prop) : y3o b (K.kv s) (pv y) (m.ks K) (m.vs pv) (k2z K.kp (K.kv s) (m.ks K)) st C = C .any (k0a st b ((m.put s y).obj K pv)) := by
 rw [KM.idx]
 cases h : m.at? s with
 | none => simp [KM.put, h, KM.obj, KM.ks, KM.vs]
 | some j => simp [KM.put, h, KM.obj, KM.ks, KM.vs, List.map_set]
end
def k6x (st : q5d) : PV → Option Nat
 | .imap ks _ => some ks.length
 | .val (.map none) => some 0
 | .val (.map (some b)) => (map? (q5w st b)).map fun r => r.1.length
 | _ => none
@[simp] theorem z6w (st : q5d) (b : Nat) : k6x st (.val (.map (some b))) = (map? (q5w st b)).map fun r => r.1.length := rfl
@[simp] theorem j8b (st : q5d) (ks : List Value) (vs : List PV) : k6x st (.imap ks vs) = some ks.length := rfl
@[simp] theorem j9w (st : q5d) : k6x st (.val (.map none)) = some 0 := rfl
@[simp ↓] theorem j9x (ρ : MX → PV) (st : q5d) (x : MX) (K : PV → Prop) : q69 (.maplen x) ρ st K = q5p (k6x st (ρ x)) fun n => K (.int n) := by
 simp only [q69, q7k]
 cases hx : ρ x with
 | val v =>
  cases v with
  | map r =>
   cases r with
   | none => simp
   | some b =>
    simp only [z6w]
    cases hg : q5w st b with
    | none => simp [map?]
    | some o => cases o <;> simp [map?]
  | _ => simp [k6x]
 | _ => simp [k6x]
def k7o : KeyOf Int := ⟨.int .i64, (false, [.int]), fun x y => by simp [y7k]⟩
section
variable {α : Type} (pv : α → PV) (m : KM Int α) (n : Int)
@[simp high] theorem KM.intObj : map? (some (m.obj k7o pv)) = some (m.ks k7o, m.vs pv) := rfl
@[simp] theorem KM.len_ks : (m.ks k7o).length = m.length := by simp [KM.ks]
theorem KM.int_put (b : Nat) (y : α) (st : q5d) (C : PV → q5d → Prop) : y3o b (.int .i64 n) (pv y) (m.ks k7o) (m.vs pv) (k2z (false, [.int]) (.int .i64 n) (m.ks k7o)) st C = C .any (k0a st b ((m.put n y).obj k7o pv)) := KM.xput_eq (K := k7o) b n y st C
end
section
variable {α : Type} (key : α → Int)
variable {key}
end
structure Hid (p : Prop) : Prop where
 out : p
def Does (P : Program) (g : FuncId) (ps : List PV) (st : q5d) (p : PV) (st' : q5d) : Prop := PCalls P g ps st fun e s => e = .ret p ∧ s = st'
theorem Does.xcall {P : Program} {g : FuncId} {ps : List PV} {st st' : q5d} {p : PV} (h : Does P g ps st p st') {Q : PEnd → q5d → Prop} (hk : Q (.ret p) st') : xcall P g ps st Q :=
 PCalls.mono h fun e s ⟨h1, h2⟩ => by subst h1; subst h2; exact hk
theorem PCalls.frz {P : Program} {g : FuncId} {ps qs : List PV} {b : Nat} {o : PObj} {st st' : q5d} {Q : PEnd → q5d → Prop} (hb : q6u st' b) (hs : StLe ((b, o) :: st') st) (ha : Frzs b o ps qs) (h : PCalls P g qs st' Q) : PCalls P g ps st Q := by
 rcases h with h | h
 ·refine .inl ⟨h.enters, fun I w vs h1 h2 => ?_⟩
  obtain ⟨I1, i1, i2, i3⟩ := (h1.le hs).freeze hb
  refine (h.out I1 w vs i2 (ha.vreps i3 (k1q i1 _ _ h2))).mono fun _ _ ⟨I', s', a, b, c, pe, d, q⟩ => ⟨I', s', Imm.le_trans i1 a, b, c, pe, d, q⟩
 ·refine .inr ⟨fun I w vs h1 h2 => ?_⟩
  obtain ⟨I1, i1, i2, i3⟩ := (h1.le hs).freeze hb
  obtain ⟨v, w', h3, I', s', a, b, c, p, d, q⟩ := h.out I1 w vs i2 (ha.vreps i3 (k1q i1 _ _ h2))
  exact ⟨v, w', h3, I', s', Imm.le_trans i1 a, b, c, p, d, q⟩
theorem k1c {α : Type} {row : List α → List PV} {k : Nat} (hrl : ∀ l, (row l).length = l.length * k) (hra : ∀ l m, row (l ++ m) = row l ++ row m) {T : TypeId} {bytes : Nat} {st : q5d} {K : PV → q5d → Prop}
  (o : Option (Acc α)) (ho : accOk row k st o) (xs : List α) {new : List PV} {m : Nat} (hnew : row xs = new) (hm : xs.length = m) (hm0 : 0 < m) (hsz : ((q5y o).length + m) * bytes ≤ 140737488355328)
  (h : ∀ o' : Option (Acc α), accOk row k st o' → q5y o' = q5y o ++ xs → K (k1p o') (q6o T st o')) : q6p T bytes k (k1p o) new m (q6o T st o) K := by
 cases o with
 | none =>
  refine q8a hrl xs hnew hm hm0 (by simpa using hsz) fun a' ha' hl' hb' => ?_
  exact h (some a') ⟨ha', hb'⟩ (by simpa using hl')
 | some a =>
  obtain ⟨ha, hb⟩ := ho
  refine q7i hrl hra ha (by simp) xs hnew hm hsz fun a' ha' hl' hb' => ?_
  have e : k20 a.b (q6o T st (some a)) = st := by simp [q7x hb]
  rw [e] at hb' ⊢
  exact h (some a') ⟨ha', hb'⟩ hl'
theorem StLe.swap {b c : Nat} {o x : PObj} {st : q5d} (h : ¬ b = c) : StLe ((b, o) :: (c, x) :: st) ((c, x) :: (b, o) :: st) := fun d y hd => by
 simp only [q5w] at hd ⊢
 by_cases h1 : b = d
 ·subst h1
  rw [if_neg (fun e => h e.symm)]
  simpa using hd
 ·simpa [h1] using hd
@[simp] theorem j2x {c : Nat} {o' : PObj} {b : Nat} {o : PObj} : ∀ {st : q5d}, q5w st c = some o → (q6u (k0a st c o') b ↔ q6u st b)
 | [], h => by cases h
 | (d, x) :: st, h => by
  simp only [q5w] at h
  simp only [k0a]
  split at h
  ·rename_i e
   subst e
   rw [if_pos rfl]
   simp only [q6u]
  ·rename_i e
   rw [if_neg e]
   simp only [q6u, j2x h]
section
variable {α : Type} (pv : α → PV) (m : KM Int α) (n : Int)
end
end Go.Pv
