/- Rows of one's own that are seen as lists from a round's head on. -/
import Derived.Test.YtliglilanpfjhaaLBr
namespace Go.Pv
theorem eget_in {e : Env} {t : Nat} : eget e t = .any ∨ ∃ q ∈ e, q.1 = t ∧ eget e t = q.2 := by
  induction e with
  | nil => exact .inl rfl
  | cons p e ih =>
    obtain ⟨u, p⟩ := p
    simp only [eget]
    split
    · rename_i h; exact .inr ⟨(u, p), by simp, h, rfl⟩
    · rcases ih with h | ⟨q, h1, h2, h3⟩
      · exact .inl h
      · exact .inr ⟨q, by simp [h1], h2, h3⟩
theorem View.frz {e e' : Env} {st st' : Store} {b : Nat} {o : PObj} (hb : snew st' b) (hs : StLe ((b, o) :: st') st) (he : ∀ q ∈ e', Frz b o (eget e q.1) q.2) : View ⟨e, st⟩ ⟨e', st'⟩ := fun I tm w h1 h2 => by
  obtain ⟨I', h3, h4, h5⟩ := (h2.le hs).freeze hb
  refine ⟨I', h3, fun t => ?_, h4⟩
  rcases eget_in (e := e') (t := t) with h | ⟨q, hq, rfl, h⟩
  · simp only [h, vrep]
  · simp only [h]
    exact (he q hq).vrep h5 (vrep_mono h3 _ _ (h1 q.1))
theorem View.ple {e e' : Env} {st st' : Store} (hs : StLe st' st) (he : ∀ q ∈ e', PLe (eget e q.1) q.2) : View ⟨e, st⟩ ⟨e', st'⟩ := fun I tm w h1 h2 =>
  ⟨I, I.le_refl, fun t => by
    rcases eget_in (e := e') (t := t) with h | ⟨q, hq, rfl, h⟩
    · simp only [h, vrep]
    · simp only [h]
      exact he q hq I _ (h1 q.1), h2.le hs⟩
theorem PLe.of_eq {p q : PV} (h : p = q) : PLe p q := h ▸ .refl p
theorem PLe.nil1 : PLe .nil (.list false [] 0) := .trans .nil .loose
theorem Frz.of_eq {b : Nat} {o : PObj} {p q : PV} (h : p = q) : Frz b o p q := h ▸ .refl p
theorem Frz.acc {α : Type} {row : List α → List PV} {k : Nat} {T : TypeId} {a : Acc α} (ha : a.Ok row k) : Frz a.b (.arr T a.R) (.own a.b 0 a.l.length a.cap) (.list false (row a.l) a.l.length) := by
  have h := Frz.own (b := a.b) (o := .arr T a.R) T a.R 0 a.l.length a.cap k rfl ha.le ha.cap
  rwa [List.drop_zero, ha.row] at h
theorem Next.view {σ : Type} {E : σ → Env} {S : σ → Store} {inv : σ → Prop} {μ : σ → Nat} {x : σ} {s : PS} (y : σ) (hi : inv y) (hm : μ y < μ x) (hv : View s ⟨E y, S y⟩) : Next E S inv μ x s := ⟨y, hi, hm, hv⟩
theorem xloop_view {P : Program} {c : MCode} {Q : MPost} {e : Env} {st : Store} {σ : Type} (E : σ → Env) (S : σ → Store) (inv : σ → Prop) (μ : σ → Nat) (x0 : σ) (h0 : inv x0) (hv : View ⟨e, st⟩ ⟨E x0, S x0⟩)
    (h : ∀ x, inv x → xwp P c (fun e s => xthen (fun s1 => Next E S inv μ x s1) Q e s) ⟨E x, S x⟩) : xloop P c Q ⟨e, st⟩ := by
  refine ⟨fun n s => ∃ x, inv x ∧ μ x = n ∧ s = ⟨E x, S x⟩, ⟨μ x0, ⟨E x0, S x0⟩, hv, x0, h0, rfl, rfl⟩, ?_⟩
  rintro n s ⟨x, hx, rfl, rfl⟩
  have hh := h x hx
  have e1 : (fun e s => xthen (fun s1 => Next E S inv μ x s1) Q e s) = mthen (fun s1 => Next E S inv μ x s1) Q := rfl
  have e2 : (fun s1 => Next E S inv μ x s1) = (fun s1 => ∃ m, m < μ x ∧ ∃ s', View s1 s' ∧ ∃ y, inv y ∧ μ y = m ∧ s' = ⟨E y, S y⟩) := by
    funext s1
    refine propext ⟨fun ⟨y, h1, h2, h3⟩ => ⟨μ y, h2, _, h3, y, h1, rfl, rfl⟩, fun ⟨m, h1, s', h2, y, h3, h4, h5⟩ => ?_⟩
    subst h4; subst h5
    exact ⟨y, h3, h1, h2⟩
  rw [e1, e2] at hh
  exact hh
end Go.Pv
/- Ranges over functions: what a sequence gives. -/
namespace Go.Pv
theorem snew_ne {st : Store} {b c : Nat} {o : PObj} (h : snew st b) (hc : sget st c = some o) : ¬ b = c ∧ ¬ c = b := by
  have : ¬ b = c := by rintro rfl; rw [snew_get h] at hc; cases hc
  exact ⟨this, fun e => this e.symm⟩
theorem PCalls.le {P : Program} {g : FuncId} {ps : List PV} {st st' : Store} {Q : PEnd → Store → Prop} (hle : StLe st st') (h : PCalls P g ps st Q) : PCalls P g ps st' Q :=
  h.imp (fun h => ⟨h.enters, fun I w vs h1 h2 => h.out I w vs (h1.le hle) h2⟩) (fun h => ⟨fun I w vs h1 h2 => h.out I w vs (h1.le hle) h2⟩)
theorem PRound.le {P : Program} {l : Nat} {ps : List PV} {st st' : Store} {Q : PEnd → Store → Prop} (hle : StLe st st') (h : PRound P l ps st Q) : PRound P l ps st' Q :=
  ⟨fun I w vs h1 h2 => h.out I w vs (h1.le hle) h2⟩
theorem PRound.args {P : Program} {l : Nat} {ps qs : List PV} {st : Store} {Q : PEnd → Store → Prop} (hw : PsLe ps qs) (h : PRound P l qs st Q) : PRound P l ps st Q :=
  ⟨fun I w vs h1 h2 => h.out I w vs h1 (hw.vreps I vs h2)⟩
theorem xround_post {P : Program} {l : Nat} {ps : List PV} {st : Store} {R Q : PEnd → Store → Prop} (h : PRound P l ps st R) (k : ∀ e s, R e s → Q e s) : xround P l ps st Q := PRound.mono h k
theorem PCalls.shrink {P : Program} {g : FuncId} {ps : List PV} {st : Store} {Q : PEnd → Store → Prop} (h : PCalls P g ps st fun e s => ∃ s', StLe s' s ∧ Q e s') : PCalls P g ps st Q :=
  h.imp (fun h => ⟨h.enters, fun I w vs h1 h2 => (h.out I w vs h1 h2).mono fun _ _ ⟨I', st', a, b, c, pe, d, s', e, q⟩ => ⟨I', s', a, b, c.le e, pe, d, q⟩⟩)
    (fun h => ⟨fun I w vs h1 h2 => by
      obtain ⟨v, w', h3, I', st', a, b, c, p, d, s', e, q⟩ := h.out I w vs h1 h2
      exact ⟨v, w', h3, I', s', a, b, c.le e, p, d, q⟩⟩)
theorem PRound.shrink {P : Program} {l : Nat} {ps : List PV} {st : Store} {Q : PEnd → Store → Prop} (h : PRound P l ps st fun e s => ∃ s', StLe s' s ∧ Q e s') : PRound P l ps st Q :=
  ⟨fun I w vs h1 h2 => by
    obtain ⟨r, h3, h4, h5⟩ := h.out I w vs h1 h2
    exact ⟨r, h3, h4, h5.mono fun _ _ ⟨I', st', a, b, c, pe, d, s', e, q⟩ => ⟨I', s', a, b, c.le e, pe, d, q⟩⟩⟩
/-- The function g, over these values, gives the elements xs one after the other, as long as it is asked for more: whatever the rounds do with stores 'S s'. -/
def Gives1 (P : Program) (g : FuncId) (fs cs : List PV) (xs : List PV) : Prop :=
  ∀ (σ : Type) (S : σ → Store) (inv : List PV → σ → Prop) (l : Nat),
    (∀ pre x s, inv pre s → pre ++ [x] <+: xs → PRound P l [x] (S s) fun e st' => e = .ret (.bool true) ∧ ∃ s', inv (pre ++ [x]) s' ∧ st' = S s') →
    ∀ s, inv [] s → PCalls P g (fs ++ [.func (.yield l) [] []] ++ cs) (S s) fun e st' => e = .ret (.tuple []) ∧ ∃ s', inv xs s' ∧ st' = S s'
theorem prefix_snoc {α : Type} {pre xs : List α} {x : α} (h : pre ++ [x] <+: xs) : pre.length < xs.length := by
  have := h.length_le
  simp at this; omega
theorem prefix_snoc_map {α β : Type} {f : α → β} {pre : List α} {p : List β} {x : β} {xs : List α} (_hp : pre.map f = p) (h : p ++ [x] <+: xs.map f) : ∃ y, f y = x ∧ y ∈ xs := by
  have : x ∈ xs.map f := h.subset (by simp)
  obtain ⟨y, h1, h2⟩ := List.mem_map.1 this
  exact ⟨y, h2, h1⟩
theorem pround_walkS {P : Program} (hmix : P.follows .mixedOrders = true) {l : Nat} {key : LoopKey} {params : List Nat} {ma mb : MCode} (hconv : key.Conv P params ma mb) {e : Env} {st : Store} (hget : sget st l = some (.loop key e .ready none))
    {args : List PV} (hlen : params.length = args.length) {Q : PEnd → Store → Prop} (h : xwp P ma (fun ex s => xroundA P l mb (fun e s => ∃ s', StLe s' s ∧ Q e s') ex s) ⟨eputs e params args, st⟩) : PRound P l args st Q := .shrink (pround_walk hmix hconv hget hlen h)
theorem filter_step {α : Type} {f : α → Bool} {l : List α} {i : Nat} (h : i < l.length) : (l.take (i + 1)).filter f = (l.take i).filter f ++ if f l[i] then [l[i]] else [] := by
  rw [List.take_succ_eq_append_getElem h, List.filter_append]
  congr 1
  by_cases hf : f l[i] <;> simp [hf]
theorem filter_pre {α β : Type} {f : α → Bool} {g : α → β} {l : List α} {i : Nat} (h : i < l.length) (hf : f l[i] = true) : ((l.take i).filter f).map g ++ [g l[i]] <+: (l.filter f).map g := by
  have : ((l.take i).filter f).map g ++ [g l[i]] = ((l.take (i + 1)).filter f).map g := by rw [filter_step h]; simp [hf]
  rw [this]
  exact ((List.take_prefix _ _).filter _).map _
theorem filter_len {α : Type} {f : α → Bool} {l : List α} {i : Nat} : ((l.take i).filter f).length ≤ i :=
  Nat.le_trans (List.length_filter_le ..) (List.length_take_le ..)
/-- A list that is being built: an empty literal at first. -/
def accQ {α : Type} : Option (Acc α) → PV
  | none => .list true [] 0
  | some a => .own a.b 0 a.l.length a.cap
theorem xappend_accQ {α : Type} {row : List α → List PV} {k : Nat} (hrl : ∀ l, (row l).length = l.length * k) (hra : ∀ l m, row (l ++ m) = row l ++ row m) {T : TypeId} {bytes : Nat} {st : Store} {K : PV → Store → Prop}
    (o : Option (Acc α)) (ho : accOk row k st o) (xs : List α) {new : List PV} {m : Nat} (hnew : row xs = new) (hm : xs.length = m) (hsz : ((accL o).length + m) * bytes ≤ 140737488355328)
    (h : ∀ o' : Option (Acc α), accOk row k st o' → accL o' = accL o ++ xs → K (accQ o') (accS T st o')) : xappend T bytes k (accQ o) new m (accS T st o) K := by
  cases o with
  | none =>
    show xappend T bytes k (.list true [] 0) new m st K
    rw [xappend_list]
    refine ⟨fun e => ?_, fun e => ⟨rfl, by simp, ?_⟩⟩
    · have : xs = [] := by rw [← List.length_eq_zero_iff, hm, e]
      subst this
      exact h none trivial (by simp)
    · subst hnew; subst hm
      refine .intro (by simpa using hsz) fun b' cap' h1 h2 h3 => ?_
      have := row_grown (k := k) (n := 0) (m := xs.length) (cap := cap') (cs := []) (by simp) (hrl xs) (by omega)
      simp only [List.nil_append, Nat.zero_add] at this h2 ⊢
      exact h (some ⟨xs, b', cap', row xs ++ List.replicate ((cap' - xs.length) * k) .any⟩) ⟨⟨h2, h3, this.1, this.2⟩, h1⟩ (by simp)
  | some a =>
    obtain ⟨ha, hb⟩ := ho
    refine xappend_acc hrl hra ha (by simp) xs hnew hm hsz fun a' ha' hl' hb' => ?_
    have e : sdel a.b (accS T st (some a)) = st := by simp [sdel_of_new hb]
    rw [e] at hb' ⊢
    exact h (some a') ⟨ha', hb'⟩ hl'
theorem Cls_acc {α : Type} {row : List α → List PV} {k : Nat} {T : TypeId} {st st0 : Store} {M : List Nat} {o : Option (Acc α)} (ho : accOk row k st o) (h : Cls st0 M st) : Cls st0 M (accS T st o) := by
  cases o with
  | none => exact h
  | some a => exact Cls_fresh ho.2 h
theorem RetView.accQ2 {α : Type} {row : List α → List PV} {k : Nat} (hr0 : row [] = []) {T : TypeId} {st : Store} {o : Option (Acc α)} (ho : accOk row k st o) {r : PV} {Q : PEnd → Store → Prop} (h : RetView .ret (.tuple [.list false (row (accL o)) (accL o).length, r]) st Q) :
    RetView .ret (.tuple [accQ o, r]) (accS T st o) Q := by
  cases o with
  | none => simp only [accL_none, hr0, List.length_nil] at h; exact .loose2 h
  | some a => exact .freeze _ ho.2 (.tuple (.cons (Frz.acc ho.1) (.cons (.refl r) .nil))) h
theorem RetView.accQ1 {α : Type} {row : List α → List PV} {k : Nat} (hr0 : row [] = []) {T : TypeId} {st : Store} {o : Option (Acc α)} (ho : accOk row k st o) {Q : PEnd → Store → Prop} (h : RetView .ret (.list false (row (accL o)) (accL o).length) st Q) :
    RetView .ret (accQ o) (accS T st o) Q := by
  cases o with
  | none => simp only [accL_none, hr0, List.length_nil] at h; exact .loose1 h
  | some a => exact .freeze _ ho.2 (Frz.acc ho.1) h
theorem RetView.accP2 {α : Type} {row : List α → List PV} {k : Nat} (hr0 : row [] = []) {T : TypeId} {st : Store} {o : Option (Acc α)} (ho : accOk row k st o) {r : PV} {Q : PEnd → Store → Prop} (h : RetView .ret (.tuple [.list false (row (accL o)) (accL o).length, r]) st Q) :
    RetView .ret (.tuple [accP o, r]) (accS T st o) Q := by
  cases o with
  | none => simp only [accL_none, hr0, List.length_nil] at h; exact .nil2 h
  | some a => exact .freeze _ ho.2 (.tuple (.cons (Frz.acc ho.1) (.cons (.refl r) .nil))) h
theorem RetView.accP1 {α : Type} {row : List α → List PV} {k : Nat} (hr0 : row [] = []) {T : TypeId} {st : Store} {o : Option (Acc α)} (ho : accOk row k st o) {Q : PEnd → Store → Prop} (h : RetView .ret (.list false (row (accL o)) (accL o).length) st Q) :
    RetView .ret (accP o) (accS T st o) Q := by
  cases o with
  | none => simp only [accL_none, hr0, List.length_nil] at h; exact .nil1 h
  | some a => exact .freeze _ ho.2 (Frz.acc ho.1) h
/-- One cell of one element of a row. -/
theorem flat_setj {α : Type} (enc : α → List PV) (k : Nat) (hk : ∀ x, (enc x).length = k) : ∀ (l : List α) (i j : Nat) (v : PV) (x' : α) (h : i < l.length), j < k → enc x' = (enc l[i]).set j v → (l.flatMap enc).set (i * k + j) v = (l.set i x').flatMap enc
  | x :: l, 0, j, v, x', _, hj, he => by
    simp only [List.getElem_cons_zero] at he
    rw [List.flatMap_cons, Nat.zero_mul, Nat.zero_add, List.set_append_left _ _ (by rw [hk]; exact hj), List.set_cons_zero, List.flatMap_cons, he]
  | x :: l, i + 1, j, v, x', h, hj, he => by
    simp only [List.getElem_cons_succ] at he
    have e : (i + 1) * k + j = (enc x).length + (i * k + j) := by rw [hk, Nat.succ_mul]; omega
    rw [List.flatMap_cons, List.set_append_right _ _ (by omega), List.set_cons_succ, List.flatMap_cons, e, Nat.add_sub_cancel_left, flat_setj enc k hk l i j v x' (by simpa using h) hj he]
/-- The same, in a row with room to spare. -/
theorem own_setj {α : Type} {enc : α → List PV} {k : Nat} (hk : ∀ x, (enc x).length = k) {l : List α} {i j : Nat} {v : PV} {x' : α} {C : List PV} (h : i < l.length) (hj : j < k) (he : enc x' = (enc l[i]).set j v) :
    setCells (l.flatMap enc ++ C) (i * k + j) [v] = (l.set i x').flatMap enc ++ C := by
  show (l.flatMap enc ++ C).set (i * k + j) v = _
  have hl := flat_length enc k hk l
  have : i * k + j < l.length * k := by
    have : (i + 1) * k ≤ l.length * k := Nat.mul_le_mul_right k h
    rw [Nat.succ_mul] at this; omega
  rw [List.set_append_left _ _ (by omega), flat_setj enc k hk l i j v x' h hj he]
theorem own_sub {α : Type} {enc : α → List PV} {k : Nat} (hk : ∀ x, (enc x).length = k) {l : List α} {i : Nat} {C : List PV} (h : i < l.length) : sub (l.flatMap enc ++ C) (i * k) k = some (enc l[i]) := by
  have hl := flat_length enc k hk l
  have h1 : i * k + k ≤ l.length * k := by rw [← Nat.succ_mul]; exact Nat.mul_le_mul_right k h
  have := flat_sub enc k hk l i h
  rw [sub_eq, if_pos (by omega)] at this
  rw [sub_eq, if_pos (by rw [List.length_append]; omega), List.drop_append_of_le_length (by omega), List.take_append_of_le_length (by rw [List.length_drop]; omega)]
  exact this
end Go.Pv
/- Maps by what they hold: keys of a type told apart, values that are read as pure values. -/
namespace Go.Pv
/-- Its keys are told apart. -/
def KM.wf {κ α : Type} (m : List (κ × α)) : Prop := (m.map (·.1)).Nodup
theorem KM.wf_nil {κ α : Type} : KM.wf ([] : List (κ × α)) := List.nodup_nil
/-- How a type of keys is laid. -/
structure KeyOf (κ : Type) [DecidableEq κ] where
  kv : κ → Value
  kp : KP
  ok : ∀ x y, eqCells kp.2 (keyCells kp.1 (kv x)) (keyCells kp.1 (kv y)) = some (decide (x = y))
abbrev KM (κ α : Type) := List (κ × α)
section
variable {κ α : Type} [DecidableEq κ] (K : KeyOf κ) (pv : α → PV) (m : KM κ α)
def KM.ks : List Value := (m.map (·.1)).map K.kv
def KM.vs : List PV := (m.map (·.2)).map pv
def KM.obj : PObj := .map (m.ks K) (m.vs pv)
def KM.at? (s : κ) : Option Nat := (m.map (·.1)).findIdx? fun y => decide (s = y)
def KM.look (s : κ) : Option α := (m.at? s).bind fun j => (m[j]?).map (·.2)
def KM.put (s : κ) (y : α) : KM κ α := match m.at? s with | some j => m.set j (s, y) | none => m ++ [(s, y)]
def KM.del (s : κ) : KM κ α := match m.at? s with | some j => m.eraseIdx j | none => m
end
section
variable {κ α : Type} [DecidableEq κ] {K : KeyOf κ} {pv : α → PV} {m : KM κ α}
theorem KM.at_lt {s : κ} {j : Nat} (h : m.at? s = some j) : ∃ h : j < m.length, m[j].1 = s := by
  unfold KM.at? at h
  rw [List.findIdx?_eq_some_iff_getElem] at h
  obtain ⟨h1, h2, -⟩ := h
  simp only [List.length_map] at h1
  exact ⟨h1, by simpa using (of_decide_eq_true h2).symm⟩
theorem KM.at_none {s : κ} (h : m.at? s = none) : ∀ q ∈ m, q.1 ≠ s := by
  unfold KM.at? at h
  rw [List.findIdx?_eq_none_iff] at h
  intro q hq e
  have := h q.1 (List.mem_map.2 ⟨q, hq, rfl⟩)
  simp [e] at this
theorem KM.look_some {s : κ} {j : Nat} (h : m.at? s = some j) (hj : j < m.length) : m.look s = some m[j].2 := by
  simp [KM.look, h, hj]
theorem KM.look_none {s : κ} (h : m.at? s = none) : m.look s = none := by simp [KM.look, h]
theorem KM.look_isNone {s : κ} : m.look s = none ↔ m.at? s = none := by
  constructor
  · intro h
    cases ha : m.at? s with
    | none => rfl
    | some j => obtain ⟨hj, -⟩ := KM.at_lt ha; rw [KM.look_some ha hj] at h; cases h
  · exact KM.look_none
theorem KM.look_put (s s' : κ) (y : α) : (m.put s y).look s' = if s' = s then some y else m.look s' := by
  have set : ∀ (m : KM κ α) (j : Nat), (m.map (·.1))[j]? = some s → ((m.set j (s, y)).map (·.1)) = m.map (·.1) := by
    intro m j h
    rw [List.map_set]
    apply List.ext_getElem?
    intro k
    rw [List.getElem?_set]
    split
    · rename_i e; subst e
      split
      · exact h.symm
      · rename_i hlt; rw [List.getElem?_eq_none (by omega)] at h; cases h
    · rfl
  unfold KM.put
  cases ha : m.at? s with
  | some j =>
    obtain ⟨hj, hs⟩ := KM.at_lt ha
    have hk := set m j (by simp [hj, hs])
    have hat : ∀ q, KM.at? (m.set j (s, y)) q = m.at? q := fun q => by unfold KM.at?; rw [hk]
    simp only
    by_cases e : s' = s
    · subst e
      rw [if_pos rfl]
      simp [KM.look, hat, ha, hj]
    · rw [if_neg e]
      unfold KM.look
      rw [hat]
      cases hq : m.at? s' with
      | none => rfl
      | some q =>
        obtain ⟨hq1, hq2⟩ := KM.at_lt hq
        have hne : j ≠ q := by rintro rfl; exact e (hq2.symm.trans hs)
        simp [List.getElem?_set, hne]
  | none =>
    simp only
    have hat : ∀ q, KM.at? (m ++ [(s, y)]) q = (m.at? q).or (if q = s then some m.length else none) := fun q => by
      unfold KM.at?
      rw [List.map_append, List.findIdx?_append]
      simp [List.findIdx?_cons]
    by_cases e : s' = s
    · subst e
      simp [KM.look, hat, ha]
    · rw [if_neg e]
      unfold KM.look
      rw [hat]
      cases hq : m.at? s' with
      | none => simp [e]
      | some q =>
        obtain ⟨hq1, hq2⟩ := KM.at_lt hq
        simp [List.getElem?_append_left hq1]
theorem KM.keys_put {s : κ} {y : α} : (m.put s y).map (·.1) = match m.at? s with | some _ => m.map (·.1) | none => m.map (·.1) ++ [s] := by
  unfold KM.put
  cases ha : m.at? s with
  | some j =>
    obtain ⟨hj, hs⟩ := KM.at_lt ha
    simp only
    rw [List.map_set]
    apply List.ext_getElem?
    intro k
    rw [List.getElem?_set]
    split
    · rename_i e; subst e
      simp [hj, hs]
    · rfl
  | none => simp
theorem KM.wf.put (h : KM.wf m) (s : κ) (y : α) : KM.wf (m.put s y) := by
  unfold KM.wf at *
  rw [KM.keys_put]
  cases ha : m.at? s with
  | some j => exact h
  | none =>
    simp only
    rw [List.nodup_append]
    refine ⟨h, by simp, fun a hm b hb => ?_⟩
    simp at hb
    subst hb
    obtain ⟨q, hq, rfl⟩ := List.mem_map.1 hm
    exact KM.at_none ha q hq
theorem KM.length_put (s : κ) (y : α) : (m.put s y).length = if (m.look s).isSome then m.length else m.length + 1 := by
  unfold KM.put
  cases ha : m.at? s with
  | some j =>
    obtain ⟨hj, hs⟩ := KM.at_lt ha
    simp [KM.look_some ha hj]
  | none => simp [KM.look_none ha]
theorem KM.mem_look (h : KM.wf m) {s : κ} {y : α} : m.look s = some y ↔ (s, y) ∈ m := by
  constructor
  · intro hl
    cases ha : m.at? s with
    | none => rw [KM.look_none ha] at hl; cases hl
    | some j =>
      obtain ⟨hj, hs⟩ := KM.at_lt ha
      rw [KM.look_some ha hj] at hl
      have : m[j] = (s, y) := by
        cases hm : m[j] with
        | mk a b => rw [hm] at hs hl; simp at hs hl; rw [hs, hl]
      exact this ▸ List.getElem_mem hj
  · intro hm
    obtain ⟨k, hk, e⟩ := List.mem_iff_getElem.1 hm
    cases ha : m.at? s with
    | none => exact absurd (by rw [e] : (m[k]).1 = s) (KM.at_none ha _ (List.getElem_mem hk))
    | some j =>
      obtain ⟨hj, hs⟩ := KM.at_lt ha
      have hjk : j = k := by
        unfold KM.wf at h
        have := (List.getElem_inj (i := j) (j := k) (h₀ := by simpa using hj) (h₁ := by simpa using hk) h).1 (by simp [hs, e])
        exact this
      subst hjk
      rw [KM.look_some ha hj, e]
theorem KM.del_eq (h : KM.wf m) (s : κ) : m.del s = m.filter fun q => decide (q.1 ≠ s) := by
  unfold KM.del
  cases ha : m.at? s with
  | none =>
    simp only
    exact (List.filter_eq_self.2 fun q hq => by simpa using KM.at_none ha q hq).symm
  | some j =>
    simp only
    obtain ⟨hj, hs⟩ := KM.at_lt ha
    have key : ∀ (m : KM κ α) (j : Nat) (hj : j < m.length), KM.wf m → m[j].1 = s → m.eraseIdx j = m.filter fun q => decide (q.1 ≠ s) := by
      intro m
      induction m with
      | nil => intro j hj; simp at hj
      | cons q m ih =>
        intro j hj hw hs
        have hw' : q.1 ∉ m.map (·.1) ∧ KM.wf m := List.nodup_cons.1 hw
        cases j with
        | zero =>
          simp only [List.getElem_cons_zero] at hs
          rw [List.eraseIdx_zero, List.tail_cons, List.filter_cons, if_neg (by simp [hs])]
          refine (List.filter_eq_self.2 fun r hr => ?_).symm
          have : r.1 ≠ s := fun e => hw'.1 (by rw [hs, ← e]; exact List.mem_map.2 ⟨r, hr, rfl⟩)
          simpa using this
        | succ j =>
          simp only [List.getElem_cons_succ] at hs
          have hne : q.1 ≠ s := fun e => hw'.1 (by rw [e, ← hs]; exact List.mem_map.2 ⟨_, List.getElem_mem (by simpa using hj), rfl⟩)
          rw [List.eraseIdx_cons_succ, List.filter_cons, if_pos (by simpa using hne), ih j (by simpa using hj) hw'.2 hs]
    exact key m j hj h hs
theorem KM.wf.del (h : KM.wf m) (s : κ) : KM.wf (m.del s) := by
  rw [KM.del_eq h]
  unfold KM.wf
  exact List.Nodup.sublist (List.Sublist.map _ List.filter_sublist) h
theorem KM.look_del (h : KM.wf m) (s s' : κ) : (m.del s).look s' = if s' = s then none else m.look s' := by
  apply Option.ext
  intro y
  have hm := KM.mem_look (h.del s) (s := s') (y := y)
  rw [hm, KM.del_eq h, List.mem_filter]
  by_cases e : s' = s
  · simp [e]
  · have := KM.mem_look h (s := s') (y := y)
    simp [e, this]
theorem KM.map_obj : map? (some (m.obj K pv)) = some (m.ks K, m.vs pv) := rfl
theorem KM.idx (x : κ) : kidx K.kp (K.kv x) (m.ks K) = some (m.at? x) := kidx_enc _ _ K.ok x _
theorem KM.xlook_t (s : κ) (z : PV) (C : PV → Prop) : xlook (kidx K.kp (K.kv s) (m.ks K)) (m.vs pv) z true C = optK (m.look s) (fun y => C (.tuple [pv y, .bool true])) (C (.tuple [z, .bool false])) := by
  rw [KM.idx]
  cases h : m.at? s with
  | none => rw [KM.look_none h]; rfl
  | some j =>
    obtain ⟨hj, -⟩ := KM.at_lt h
    rw [KM.look_some h hj]
    simp [KM.vs, hj]
theorem KM.xlook_f (s : κ) (z : PV) (C : PV → Prop) : xlook (kidx K.kp (K.kv s) (m.ks K)) (m.vs pv) z false C = optK (m.look s) (fun y => C (pv y)) (C z) := by
  rw [KM.idx]
  cases h : m.at? s with
  | none => rw [KM.look_none h]; rfl
  | some j =>
    obtain ⟨hj, -⟩ := KM.at_lt h
    rw [KM.look_some h hj]
    simp [KM.vs, hj]
theorem KM.xput_eq (b : Nat) (s : κ) (y : α) (st : Store) (C : PV → Store → Prop) : xput b (K.kv s) (pv y) (m.ks K) (m.vs pv) (kidx K.kp (K.kv s) (m.ks K)) st C = C .any (sset st b ((m.put s y).obj K pv)) := by
  rw [KM.idx]
  cases h : m.at? s with
  | none => simp [KM.put, h, KM.obj, KM.ks, KM.vs]
  | some j => simp [KM.put, h, KM.obj, KM.ks, KM.vs, List.map_set]
theorem KM.xdel_eq (b : Nat) (s : κ) (st : Store) (hs : sset st b (m.obj K pv) = st) (C : PV → Store → Prop) : xdel b (m.ks K) (m.vs pv) (kidx K.kp (K.kv s) (m.ks K)) st C = C .any (sset st b ((m.del s).obj K pv)) := by
  rw [KM.idx]
  cases h : m.at? s with
  | none => simp [KM.del, h, hs]
  | some j =>
    have e : ∀ {β γ : Type} (f : β → γ) (l : List β) (j : Nat), (l.eraseIdx j).map f = (l.map f).eraseIdx j := by
      intro β γ f l
      induction l with
      | nil => intro j; simp
      | cons x l ih => intro j; cases j <;> simp [ih]
    simp [KM.del, h, KM.obj, KM.ks, KM.vs, e]
end
/-- How many entries a map has. -/
def maplen? (st : Store) : PV → Option Nat
  | .imap ks _ => some ks.length
  | .val (.map none) => some 0
  | .val (.map (some b)) => (map? (sget st b)).map fun r => r.1.length
  | _ => none
@[simp] theorem maplen?_own (st : Store) (b : Nat) : maplen? st (.val (.map (some b))) = (map? (sget st b)).map fun r => r.1.length := rfl
@[simp] theorem maplen?_imap (st : Store) (ks : List Value) (vs : List PV) : maplen? st (.imap ks vs) = some ks.length := rfl
@[simp] theorem maplen?_nil (st : Store) : maplen? st (.val (.map none)) = some 0 := rfl
@[simp ↓] theorem mval_maplen (ρ : MX → PV) (st : Store) (x : MX) (K : PV → Prop) : xval (.maplen x) ρ st K = onSome (maplen? st (ρ x)) fun n => K (.int n) := by
  simp only [xval, mval]
  cases hx : ρ x with
  | val v =>
    cases v with
    | map r =>
      cases r with
      | none => simp
      | some b =>
        simp only [maplen?_own]
        cases hg : sget st b with
        | none => simp [map?]
        | some o => cases o <;> simp [map?]
    | _ => simp [maplen?]
  | _ => simp [maplen?]
/-- Keys that are ints. -/
def intKey : KeyOf Int := ⟨.int .i64, (false, [.int]), fun x y => by simp [and2]⟩
section
variable {α : Type} (pv : α → PV) (m : KM Int α) (n : Int)
@[simp high] theorem KM.intObj : map? (some (m.obj intKey pv)) = some (m.ks intKey, m.vs pv) := rfl
@[simp] theorem KM.len_ks : (m.ks intKey).length = m.length := by simp [KM.ks]
@[simp] theorem KM.len_vs : (m.vs pv).length = m.length := by simp [KM.vs]
@[simp high] theorem KM.int_t (z : PV) (C : PV → Prop) : xlook (kidx (false, [.int]) (.int .i64 n) (m.ks intKey)) (m.vs pv) z true C = optK (m.look n) (fun y => C (.tuple [pv y, .bool true])) (C (.tuple [z, .bool false])) := KM.xlook_t (K := intKey) n z C
@[simp high] theorem KM.int_f (z : PV) (C : PV → Prop) : xlook (kidx (false, [.int]) (.int .i64 n) (m.ks intKey)) (m.vs pv) z false C = optK (m.look n) (fun y => C (pv y)) (C z) := KM.xlook_f (K := intKey) n z C
theorem KM.int_put (b : Nat) (y : α) (st : Store) (C : PV → Store → Prop) : xput b (.int .i64 n) (pv y) (m.ks intKey) (m.vs pv) (kidx (false, [.int]) (.int .i64 n) (m.ks intKey)) st C = C .any (sset st b ((m.put n y).obj intKey pv)) := KM.xput_eq (K := intKey) b n y st C
theorem KM.nil_obj : (KM.obj intKey pv ([] : KM Int α)) = .map [] [] := rfl
end
end Go.Pv
/- Sorting that keeps the order of equals: plain facts. -/
namespace Go.Pv
section
variable {α : Type} (key : α → Int)
def ordIns (x : α) : List α → List α
  | [] => [x]
  | y :: l => if key x ≤ key y then x :: y :: l else y :: ordIns x l
def srt : List α → List α
  | [] => []
  | x :: l => ordIns key x (srt l)
def Srtd (l : List α) : Prop := l.Pairwise (fun a b => key a ≤ key b)
/-- Of each key, the same elements in the same order. -/
def Stb (l m : List α) : Prop := ∀ v, l.filter (fun a => decide (key a = v)) = m.filter (fun a => decide (key a = v))
variable {key}
theorem Stb.refl (l : List α) : Stb key l l := fun _ => rfl
theorem Stb.symm {l m : List α} (h : Stb key l m) : Stb key m l := fun v => (h v).symm
theorem Stb.trans {l m n : List α} (h : Stb key l m) (k : Stb key m n) : Stb key l n := fun v => (h v).trans (k v)
theorem Stb.app {l m l' m' : List α} (h : Stb key l m) (k : Stb key l' m') : Stb key (l ++ l') (m ++ m') := fun v => by rw [List.filter_append, List.filter_append, h v, k v]
theorem Stb.cons {l m : List α} (x : α) (h : Stb key l m) : Stb key (x :: l) (x :: m) := Stb.app (.refl [x]) h
theorem Stb.swap {A B : List α} (h : ∀ a ∈ A, ∀ b ∈ B, key a ≠ key b) : Stb key (A ++ B) (B ++ A) := fun v => by
  rw [List.filter_append, List.filter_append]
  by_cases hA : A.filter (fun a => decide (key a = v)) = []
  · rw [hA]; simp
  · obtain ⟨a, ha⟩ := List.exists_mem_of_ne_nil _ hA
    have hB : B.filter (fun a => decide (key a = v)) = [] := by
      rw [List.filter_eq_nil_iff]
      intro b hb hbv
      simp only [List.mem_filter, decide_eq_true_eq] at ha hbv
      exact h a ha.1 b hb (by omega)
    rw [hB]; simp
theorem Stb.mem {l m : List α} (h : Stb key l m) {x : α} (hx : x ∈ l) : x ∈ m := by
  have : x ∈ l.filter (fun a => decide (key a = key x)) := by simp [hx]
  rw [h] at this
  exact (List.mem_filter.1 this).1
theorem ordIns_stb (x : α) (l : List α) : Stb key (x :: l) (ordIns key x l) := by
  induction l with
  | nil => exact .refl _
  | cons y l ih =>
    unfold ordIns
    split
    · exact .refl _
    · rename_i h
      refine Stb.trans (m := y :: x :: l) ?_ (.cons y ih)
      exact Stb.app (l := [x] ++ [y]) (m := [y] ++ [x]) (.swap (by simp; omega)) (.refl l)
theorem srt_stb (l : List α) : Stb key l (srt key l) := by
  induction l with
  | nil => exact .refl _
  | cons x l ih => exact (ih.cons x).trans (ordIns_stb x _)
theorem ordIns_srtd (x : α) {l : List α} (h : Srtd key l) : Srtd key (ordIns key x l) := by
  induction l with
  | nil => exact List.pairwise_singleton _ _
  | cons y l ih =>
    unfold ordIns
    have h' := List.pairwise_cons.1 h
    split
    · rename_i hxy
      refine List.pairwise_cons.2 ⟨fun z hz => ?_, h⟩
      rcases List.mem_cons.1 hz with rfl | hz
      · exact hxy
      · have := h'.1 z hz; omega
    · rename_i hxy
      refine List.pairwise_cons.2 ⟨fun z hz => ?_, ih h'.2⟩
      rcases List.mem_cons.1 ((ordIns_stb x l).symm.mem hz) with rfl | hz
      · omega
      · exact h'.1 z hz
theorem srt_srtd (l : List α) : Srtd key (srt key l) := by
  induction l with
  | nil => exact .nil
  | cons x l ih => exact ordIns_srtd x ih
theorem ordIns_perm (x : α) (l : List α) : (ordIns key x l).Perm (x :: l) := by
  induction l with
  | nil => exact .refl _
  | cons y l ih =>
    unfold ordIns
    split
    · exact .refl _
    · exact (ih.cons y).trans (.swap x y l)
theorem srt_perm (l : List α) : (srt key l).Perm l := by
  induction l with
  | nil => exact .refl _
  | cons x l ih => exact (ordIns_perm x _).trans (ih.cons x)
@[simp] theorem srt_length (l : List α) : (srt key l).length = l.length := (srt_perm l).length_eq
theorem mem_srt {l : List α} {x : α} : x ∈ srt key l ↔ x ∈ l := (srt_perm l).mem_iff
theorem Stb.uniq : ∀ {l m : List α}, Srtd key l → Srtd key m → Stb key l m → l = m
  | [], m, _, _, h => by
    rcases m with _ | ⟨y, m⟩
    · rfl
    · exact absurd (h.symm.mem (List.mem_cons_self ..)) (by simp)
  | x :: l, [], _, _, h => absurd (h.mem (List.mem_cons_self ..)) (by simp)
  | x :: l, y :: m, h1, h2, h => by
    have h1' := List.pairwise_cons.1 h1
    have h2' := List.pairwise_cons.1 h2
    have e : key x = key y := by
      have a : key y ≤ key x := by
        rcases List.mem_cons.1 (h.mem (List.mem_cons_self ..)) with e | hx
        · rw [e]; omega
        · exact h2'.1 x hx
      have b : key x ≤ key y := by
        rcases List.mem_cons.1 (h.symm.mem (List.mem_cons_self ..)) with e | hy
        · rw [e]; omega
        · exact h1'.1 y hy
      omega
    have hh := h (key x)
    rw [List.filter_cons_of_pos (by simp), List.filter_cons_of_pos (by simp [e])] at hh
    obtain ⟨rfl, ht⟩ := List.cons.inj hh
    rw [Stb.uniq h1'.2 h2'.2 fun v => ?_]
    by_cases hv : key x = v
    · subst hv; exact ht
    · have := h v
      rwa [List.filter_cons_of_neg (by simpa using hv), List.filter_cons_of_neg (by simpa using hv)] at this
theorem srt_uniq {l m : List α} (h1 : Srtd key m) (h2 : Stb key l m) : m = srt key l := Stb.uniq h1 (srt_srtd l) (h2.symm.trans (srt_stb l))
theorem srt_of_srtd {l : List α} (h : Srtd key l) : srt key l = l := (srt_uniq h (.refl l)).symm
theorem srt_congr {l m : List α} (h : Stb key l m) : srt key l = srt key m := srt_uniq (srt_srtd l) (h.symm.trans (srt_stb l))
theorem Srtd.append {l m : List α} (h1 : Srtd key l) (h2 : Srtd key m) (h : ∀ a ∈ l, ∀ b ∈ m, key a ≤ key b) : Srtd key (l ++ m) := List.pairwise_append.2 ⟨h1, h2, h⟩
theorem Srtd.left {l m : List α} (h : Srtd key (l ++ m)) : Srtd key l := (List.pairwise_append.1 h).1
theorem Srtd.right {l m : List α} (h : Srtd key (l ++ m)) : Srtd key m := (List.pairwise_append.1 h).2.1
theorem Srtd.le {l m : List α} (h : Srtd key (l ++ m)) {a b : α} (ha : a ∈ l) (hb : b ∈ m) : key a ≤ key b := (List.pairwise_append.1 h).2.2 a ha b hb
/-- An element is laid into a list that is in order, behind those with its key. -/
theorem srt_snoc {P Q : List α} {x : α} (h : Srtd key (P ++ Q)) (hP : ∀ p ∈ P, key p ≤ key x) (hQ : ∀ q ∈ Q, key x < key q) : P ++ x :: Q = srt key (P ++ Q ++ [x]) := by
  refine srt_uniq (h.left.append (List.pairwise_cons.2 ⟨fun q hq => by have := hQ q hq; omega, h.right⟩) fun a ha b hb => ?_) ?_
  · rcases List.mem_cons.1 hb with rfl | hb
    · exact hP a ha
    · exact h.le ha hb
  · rw [List.append_assoc]
    exact Stb.app (.refl P) (.swap fun q hq y hy => by simp at hy; subst hy; have := hQ q hq; omega)
/-- The same, before those with its key. -/
theorem srt_front {P Q : List α} {x : α} (h : Srtd key (P ++ Q)) (hP : ∀ p ∈ P, key p < key x) (hQ : ∀ q ∈ Q, key x ≤ key q) : P ++ x :: Q = srt key (x :: (P ++ Q)) := by
  refine srt_uniq (h.left.append (List.pairwise_cons.2 ⟨hQ, h.right⟩) fun a ha b hb => ?_) ?_
  · rcases List.mem_cons.1 hb with rfl | hb
    · have := hP a ha; omega
    · exact h.le ha hb
  · have := Stb.app (Stb.swap (key := key) (A := [x]) (B := P) fun y hy q hq => by simp at hy; subst hy; have := hP q hq; omega) (Stb.refl Q)
    simpa using this
/-- Two lists in order are merged by parts. -/
theorem srt_parts {A1 A2 B1 B2 : List α} (hA : Srtd key (A1 ++ A2)) (hB : Srtd key (B1 ++ B2)) (h1 : ∀ a ∈ A1, ∀ b ∈ B2, key a ≤ key b) (h2 : ∀ a ∈ A2, ∀ b ∈ B1, key b < key a) :
    srt key (A1 ++ B1) ++ srt key (A2 ++ B2) = srt key (A1 ++ A2 ++ (B1 ++ B2)) := by
  refine srt_uniq ((srt_srtd _).append (srt_srtd _) fun a ha b hb => ?_) ?_
  · rcases List.mem_append.1 (mem_srt.1 ha) with ha | ha <;> rcases List.mem_append.1 (mem_srt.1 hb) with hb | hb
    · exact hA.le ha hb
    · exact h1 a ha b hb
    · have := h2 b hb a ha; omega
    · exact hB.le ha hb
  · refine Stb.trans (m := A1 ++ B1 ++ (A2 ++ B2)) ?_ ((srt_stb _).app (srt_stb _))
    rw [List.append_assoc, List.append_assoc]
    refine Stb.app (.refl A1) ?_
    rw [← List.append_assoc, ← List.append_assoc]
    exact Stb.app (.swap fun a ha b hb => by have := h2 a ha b hb; omega) (.refl B2)
end
end Go.Pv
/- Contracts of functions that write one row or map of the caller's. -/
namespace Go.Pv
/-- A fact that is kept from simp. -/
structure Hid (p : Prop) : Prop where
  out : p
/-- Called so, the function gives p and leaves this store. -/
def Does (P : Program) (g : FuncId) (ps : List PV) (st : Store) (p : PV) (st' : Store) : Prop := PCalls P g ps st fun e s => e = .ret p ∧ s = st'
theorem Does.xcall {P : Program} {g : FuncId} {ps : List PV} {st st' : Store} {p : PV} (h : Does P g ps st p st') {Q : PEnd → Store → Prop} (hk : Q (.ret p) st') : xcall P g ps st Q :=
  PCalls.mono h fun e s ⟨h1, h2⟩ => by subst h1; subst h2; exact hk
theorem Does.le {P : Program} {g : FuncId} {ps : List PV} {st0 st st' : Store} {p : PV} (h : Does P g ps st p st') (hle : StLe st st0) : Does P g ps st0 p st' := PCalls.le hle h
theorem Rets.does {P : Program} {g : FuncId} {ps : List PV} {st : Store} {p : PV} (h : Rets P g ps st p) : Does P g ps st p st := h
/-- What is behind an argument may be seen as never written any more. -/
theorem PCalls.frz {P : Program} {g : FuncId} {ps qs : List PV} {b : Nat} {o : PObj} {st st' : Store} {Q : PEnd → Store → Prop} (hb : snew st' b) (hs : StLe ((b, o) :: st') st) (ha : Frzs b o ps qs) (h : PCalls P g qs st' Q) : PCalls P g ps st Q := by
  rcases h with h | h
  · refine .inl ⟨h.enters, fun I w vs h1 h2 => ?_⟩
    obtain ⟨I1, i1, i2, i3⟩ := (h1.le hs).freeze hb
    refine (h.out I1 w vs i2 (ha.vreps i3 (vreps_mono i1 _ _ h2))).mono fun _ _ ⟨I', s', a, b, c, pe, d, q⟩ => ⟨I', s', Imm.le_trans i1 a, b, c, pe, d, q⟩
  · refine .inr ⟨fun I w vs h1 h2 => ?_⟩
    obtain ⟨I1, i1, i2, i3⟩ := (h1.le hs).freeze hb
    obtain ⟨v, w', h3, I', s', a, b, c, p, d, q⟩ := h.out I1 w vs i2 (ha.vreps i3 (vreps_mono i1 _ _ h2))
    exact ⟨v, w', h3, I', s', Imm.le_trans i1 a, b, c, p, d, q⟩
/-- A list that is being built, nil at first. -/
theorem xappend_accP {α : Type} {row : List α → List PV} {k : Nat} (hrl : ∀ l, (row l).length = l.length * k) (hra : ∀ l m, row (l ++ m) = row l ++ row m) {T : TypeId} {bytes : Nat} {st : Store} {K : PV → Store → Prop}
    (o : Option (Acc α)) (ho : accOk row k st o) (xs : List α) {new : List PV} {m : Nat} (hnew : row xs = new) (hm : xs.length = m) (hm0 : 0 < m) (hsz : ((accL o).length + m) * bytes ≤ 140737488355328)
    (h : ∀ o' : Option (Acc α), accOk row k st o' → accL o' = accL o ++ xs → K (accP o') (accS T st o')) : xappend T bytes k (accP o) new m (accS T st o) K := by
  cases o with
  | none =>
    refine xappend_acc0 hrl xs hnew hm hm0 (by simpa using hsz) fun a' ha' hl' hb' => ?_
    exact h (some a') ⟨ha', hb'⟩ (by simpa using hl')
  | some a =>
    obtain ⟨ha, hb⟩ := ho
    refine xappend_acc hrl hra ha (by simp) xs hnew hm hsz fun a' ha' hl' hb' => ?_
    have e : sdel a.b (accS T st (some a)) = st := by simp [sdel_of_new hb]
    rw [e] at hb' ⊢
    exact h (some a') ⟨ha', hb'⟩ hl'
/-- An element of a row with room to spare is written. -/
theorem own_set {α : Type} {enc : α → List PV} {k : Nat} (hk : ∀ x, (enc x).length = k) {l : List α} {i : Nat} {x : α} {C : List PV} (h : i < l.length) : setCells (l.flatMap enc ++ C) (i * k) (enc x) = (l.set i x).flatMap enc ++ C := by
  have hl := flat_length enc k hk l
  have h1 : i * k + k ≤ l.length * k := by rw [← Nat.succ_mul]; exact Nat.mul_le_mul_right k h
  have e := flat_set enc k hk l i x h
  rw [← e]
  exact setCells_append_left _ _ _ _ (by rw [hk]; omega)
theorem StLe.swap {b c : Nat} {o x : PObj} {st : Store} (h : ¬ b = c) : StLe ((b, o) :: (c, x) :: st) ((c, x) :: (b, o) :: st) := fun d y hd => by
  simp only [sget] at hd ⊢
  by_cases h1 : b = d
  · subst h1
    rw [if_neg (fun e => h e.symm)]
    simpa using hd
  · simpa [h1] using hd
theorem sset_same {b : Nat} {o : PObj} : ∀ {st : Store}, sget st b = some o → sset st b o = st
  | [], h => by cases h
  | (c, x) :: st, h => by
    simp only [sget] at h
    simp only [sset]
    split at h
    · rename_i e
      subst e
      rw [if_pos rfl, Option.some.inj h]
    · rename_i e
      rw [if_neg e, sset_same h]
@[simp] theorem snew_sset {c : Nat} {o' : PObj} {b : Nat} {o : PObj} : ∀ {st : Store}, sget st c = some o → (snew (sset st c o') b ↔ snew st b)
  | [], h => by cases h
  | (d, x) :: st, h => by
    simp only [sget] at h
    simp only [sset]
    split at h
    · rename_i e
      subst e
      rw [if_pos rfl]
      simp only [snew]
    · rename_i e
      rw [if_neg e]
      simp only [snew, snew_sset h]
section
variable {α : Type} (pv : α → PV) (m : KM Int α) (n : Int)
theorem KM.int_del (b : Nat) (st : Store) (hs : sset st b (m.obj intKey pv) = st) (C : PV → Store → Prop) : xdel b (m.ks intKey) (m.vs pv) (kidx (false, [.int]) (.int .i64 n) (m.ks intKey)) st C = C .any (sset st b ((m.del n).obj intKey pv)) := KM.xdel_eq (K := intKey) b n st hs C
end
end Go.Pv
