/- Ranges over functions: what a sequence gives. -/
import Derived.Test.YtbjfmedpaohpnaaLVf
namespace Go.Pv
theorem snew_ne {st : Store} {b c : Nat} {o : PObj} (h : snew st b) (hc : sget st c = some o) : ¬ b = c ∧ ¬ c = b := by
  have : ¬ b = c := by rintro rfl; rw [snew_get h] at hc; cases hc
  exact ⟨this, fun e => this e.symm⟩
theorem PCalls.le {P : Program} {g : FuncId} {ps : List PV} {st st' : Store} {Q : PEnd → Store → Prop} (hle : StLe st st') (h : PCalls P g ps st Q) : PCalls P g ps st' Q :=
  h.imp (fun h => ⟨h.enters, fun I w vs h1 h2 => h.out I w vs (h1.le hle) h2⟩) (fun h => ⟨fun I w vs h1 h2 => h.out I w vs (h1.le hle) h2⟩)
theorem PRound.le {P : Program} {l : Nat} {ps : List PV} {st st' : Store} {Q : PEnd → Store → Prop} (hle : StLe st st') (h : PRound P l ps st Q) : PRound P l ps st' Q :=
  ⟨fun I w vs h1 h2 => h.out I w vs (h1.le hle) h2⟩
theorem PRound.args {P : Program} {l : Nat} {ps qs : List PV} {st : Store} {Q : PEnd → Store → Prop} (hw : PsLe ps qs) (h : PRound P l qs st Q) : PRound P l ps st Q :=
  ⟨fun I w vs h1 h2 => h.out I w vs h1 (hw.vreps I vs h2)⟩
theorem xround_post {P : Program} {l : Nat} {ps : List PV} {st : Store} {R Q : PEnd → Store → Prop} (h : PRound P l ps st R) (k : ∀ e s, R e s → Q e s) : xround P l ps st Q := PRound.mono h k
theorem PCalls.shrink {P : Program} {g : FuncId} {ps : List PV} {st : Store} {Q : PEnd → Store → Prop} (h : PCalls P g ps st fun e s => ∃ s', StLe s' s ∧ Q e s') : PCalls P g ps st Q :=
  h.imp (fun h => ⟨h.enters, fun I w vs h1 h2 => (h.out I w vs h1 h2).mono fun _ _ ⟨I', st', a, b, c, pe, d, s', e, q⟩ => ⟨I', s', a, b, c.le e, pe, d, q⟩⟩)
    (fun h => ⟨fun I w vs h1 h2 => by
      obtain ⟨v, w', h3, I', st', a, b, c, p, d, s', e, q⟩ := h.out I w vs h1 h2
      exact ⟨v, w', h3, I', s', a, b, c.le e, p, d, q⟩⟩)
theorem PRound.shrink {P : Program} {l : Nat} {ps : List PV} {st : Store} {Q : PEnd → Store → Prop} (h : PRound P l ps st fun e s => ∃ s', StLe s' s ∧ Q e s') : PRound P l ps st Q :=
  ⟨fun I w vs h1 h2 => by
    obtain ⟨r, h3, h4, h5⟩ := h.out I w vs h1 h2
    exact ⟨r, h3, h4, h5.mono fun _ _ ⟨I', st', a, b, c, pe, d, s', e, q⟩ => ⟨I', s', a, b, c.le e, pe, d, q⟩⟩⟩
/-- The function g, over these values, gives the elements xs one after the other, as long as it is asked for more: whatever the rounds do with stores 'S s'. -/
def Gives1 (P : Program) (g : FuncId) (fs cs : List PV) (xs : List PV) : Prop :=
  ∀ (σ : Type) (S : σ → Store) (inv : List PV → σ → Prop) (l : Nat),
    (∀ pre x s, inv pre s → pre ++ [x] <+: xs → PRound P l [x] (S s) fun e st' => e = .ret (.bool true) ∧ ∃ s', inv (pre ++ [x]) s' ∧ st' = S s') →
    ∀ s, inv [] s → PCalls P g (fs ++ [.func (.yield l) [] []] ++ cs) (S s) fun e st' => e = .ret (.tuple []) ∧ ∃ s', inv xs s' ∧ st' = S s'
theorem prefix_snoc {α : Type} {pre xs : List α} {x : α} (h : pre ++ [x] <+: xs) : pre.length < xs.length := by
  have := h.length_le
  simp at this; omega
theorem prefix_snoc_map {α β : Type} {f : α → β} {pre : List α} {p : List β} {x : β} {xs : List α} (hp : pre.map f = p) (h : p ++ [x] <+: xs.map f) : ∃ y, f y = x ∧ y ∈ xs := by
  have : x ∈ xs.map f := h.subset (by simp)
  obtain ⟨y, h1, h2⟩ := List.mem_map.1 this
  exact ⟨y, h2, h1⟩
theorem pround_walkS {P : Program} (hmix : P.follows .mixedOrders = true) {l : Nat} {key : LoopKey} {params : List Nat} {ma mb : MCode} (hconv : key.Conv P params ma mb) {e : Env} {st : Store} (hget : sget st l = some (.loop key e .ready none))
    {args : List PV} (hlen : params.length = args.length) {Q : PEnd → Store → Prop} (h : xwp P ma (fun ex s => xroundA P l mb (fun e s => ∃ s', StLe s' s ∧ Q e s') ex s) ⟨eputs e params args, st⟩) : PRound P l args st Q := .shrink (pround_walk hmix hconv hget hlen h)
theorem filter_step {α : Type} {f : α → Bool} {l : List α} {i : Nat} (h : i < l.length) : (l.take (i + 1)).filter f = (l.take i).filter f ++ if f l[i] then [l[i]] else [] := by
  rw [List.take_succ_eq_append_getElem h, List.filter_append]
  congr 1
  by_cases hf : f l[i] <;> simp [hf]
theorem filter_pre {α β : Type} {f : α → Bool} {g : α → β} {l : List α} {i : Nat} (h : i < l.length) (hf : f l[i] = true) : ((l.take i).filter f).map g ++ [g l[i]] <+: (l.filter f).map g := by
  have : ((l.take i).filter f).map g ++ [g l[i]] = ((l.take (i + 1)).filter f).map g := by rw [filter_step h]; simp [hf]
  rw [this]
  exact ((List.take_prefix _ _).filter _).map _
theorem filter_len {α : Type} {f : α → Bool} {l : List α} {i : Nat} : ((l.take i).filter f).length ≤ i :=
  Nat.le_trans (List.length_filter_le ..) (List.length_take_le ..)
/-- A list that is being built: an empty literal at first. -/
def accQ {α : Type} : Option (Acc α) → PV
  | none => .list true [] 0
  | some a => .own a.b 0 a.l.length a.cap
theorem xappend_accQ {α : Type} {row : List α → List PV} {k : Nat} (hrl : ∀ l, (row l).length = l.length * k) (hra : ∀ l m, row (l ++ m) = row l ++ row m) {T : TypeId} {bytes : Nat} {st : Store} {K : PV → Store → Prop}
    (o : Option (Acc α)) (ho : accOk row k st o) (xs : List α) {new : List PV} {m : Nat} (hnew : row xs = new) (hm : xs.length = m) (hsz : ((accL o).length + m) * bytes ≤ 140737488355328)
    (h : ∀ o' : Option (Acc α), accOk row k st o' → accL o' = accL o ++ xs → K (accQ o') (accS T st o')) : xappend T bytes k (accQ o) new m (accS T st o) K := by
  cases o with
  | none =>
    show xappend T bytes k (.list true [] 0) new m st K
    rw [xappend_list]
    refine ⟨fun e => ?_, fun e => ⟨rfl, by simp, ?_⟩⟩
    · have : xs = [] := by rw [← List.length_eq_zero_iff, hm, e]
      subst this
      exact h none trivial (by simp)
    · subst hnew; subst hm
      refine .intro (by simpa using hsz) fun b' cap' h1 h2 h3 => ?_
      have := row_grown (k := k) (n := 0) (m := xs.length) (cap := cap') (cs := []) (by simp) (hrl xs) (by omega)
      simp only [List.nil_append, Nat.zero_add] at this h2 ⊢
      exact h (some ⟨xs, b', cap', row xs ++ List.replicate ((cap' - xs.length) * k) .any⟩) ⟨⟨h2, h3, this.1, this.2⟩, h1⟩ (by simp)
  | some a =>
    obtain ⟨ha, hb⟩ := ho
    refine xappend_acc hrl hra ha (by simp) xs hnew hm hsz fun a' ha' hl' hb' => ?_
    have e : sdel a.b (accS T st (some a)) = st := by simp [sdel_of_new hb]
    rw [e] at hb' ⊢
    exact h (some a') ⟨ha', hb'⟩ hl'
theorem Cls_acc {α : Type} {row : List α → List PV} {k : Nat} {T : TypeId} {st st0 : Store} {M : List Nat} {o : Option (Acc α)} (ho : accOk row k st o) (h : Cls st0 M st) : Cls st0 M (accS T st o) := by
  cases o with
  | none => exact h
  | some a => exact Cls_fresh ho.2 h
theorem RetView.accQ2 {α : Type} {row : List α → List PV} {k : Nat} (hr0 : row [] = []) {T : TypeId} {st : Store} {o : Option (Acc α)} (ho : accOk row k st o) {r : PV} {Q : PEnd → Store → Prop} (h : RetView .ret (.tuple [.list false (row (accL o)) (accL o).length, r]) st Q) :
    RetView .ret (.tuple [accQ o, r]) (accS T st o) Q := by
  cases o with
  | none => simp only [accL_none, hr0, List.length_nil] at h; exact .loose2 h
  | some a => exact .freeze _ ho.2 (.tuple (.cons (Frz.acc ho.1) (.cons (.refl r) .nil))) h
theorem RetView.accQ1 {α : Type} {row : List α → List PV} {k : Nat} (hr0 : row [] = []) {T : TypeId} {st : Store} {o : Option (Acc α)} (ho : accOk row k st o) {Q : PEnd → Store → Prop} (h : RetView .ret (.list false (row (accL o)) (accL o).length) st Q) :
    RetView .ret (accQ o) (accS T st o) Q := by
  cases o with
  | none => simp only [accL_none, hr0, List.length_nil] at h; exact .loose1 h
  | some a => exact .freeze _ ho.2 (Frz.acc ho.1) h
theorem RetView.accP2 {α : Type} {row : List α → List PV} {k : Nat} (hr0 : row [] = []) {T : TypeId} {st : Store} {o : Option (Acc α)} (ho : accOk row k st o) {r : PV} {Q : PEnd → Store → Prop} (h : RetView .ret (.tuple [.list false (row (accL o)) (accL o).length, r]) st Q) :
    RetView .ret (.tuple [accP o, r]) (accS T st o) Q := by
  cases o with
  | none => simp only [accL_none, hr0, List.length_nil] at h; exact .nil2 h
  | some a => exact .freeze _ ho.2 (.tuple (.cons (Frz.acc ho.1) (.cons (.refl r) .nil))) h
theorem RetView.accP1 {α : Type} {row : List α → List PV} {k : Nat} (hr0 : row [] = []) {T : TypeId} {st : Store} {o : Option (Acc α)} (ho : accOk row k st o) {Q : PEnd → Store → Prop} (h : RetView .ret (.list false (row (accL o)) (accL o).length) st Q) :
    RetView .ret (accP o) (accS T st o) Q := by
  cases o with
  | none => simp only [accL_none, hr0, List.length_nil] at h; exact .nil1 h
  | some a => exact .freeze _ ho.2 (Frz.acc ho.1) h
/-- One cell of one element of a row. -/
theorem flat_setj {α : Type} (enc : α → List PV) (k : Nat) (hk : ∀ x, (enc x).length = k) : ∀ (l : List α) (i j : Nat) (v : PV) (x' : α) (h : i < l.length), j < k → enc x' = (enc l[i]).set j v → (l.flatMap enc).set (i * k + j) v = (l.set i x').flatMap enc
  | x :: l, 0, j, v, x', _, hj, he => by
    simp only [List.getElem_cons_zero] at he
    rw [List.flatMap_cons, Nat.zero_mul, Nat.zero_add, List.set_append_left _ _ (by rw [hk]; exact hj), List.set_cons_zero, List.flatMap_cons, he]
  | x :: l, i + 1, j, v, x', h, hj, he => by
    simp only [List.getElem_cons_succ] at he
    have e : (i + 1) * k + j = (enc x).length + (i * k + j) := by rw [hk, Nat.succ_mul]; omega
    rw [List.flatMap_cons, List.set_append_right _ _ (by omega), List.set_cons_succ, List.flatMap_cons, e, Nat.add_sub_cancel_left, flat_setj enc k hk l i j v x' (by simpa using h) hj he]
/-- The same, in a row with room to spare. -/
theorem own_setj {α : Type} {enc : α → List PV} {k : Nat} (hk : ∀ x, (enc x).length = k) {l : List α} {i j : Nat} {v : PV} {x' : α} {C : List PV} (h : i < l.length) (hj : j < k) (he : enc x' = (enc l[i]).set j v) :
    setCells (l.flatMap enc ++ C) (i * k + j) [v] = (l.set i x').flatMap enc ++ C := by
  show (l.flatMap enc ++ C).set (i * k + j) v = _
  have hl := flat_length enc k hk l
  have : i * k + j < l.length * k := by
    have : (i + 1) * k ≤ l.length * k := Nat.mul_le_mul_right k h
    rw [Nat.succ_mul] at this; omega
  rw [List.set_append_left _ _ (by omega), flat_setj enc k hk l i j v x' h hj he]
theorem own_sub {α : Type} {enc : α → List PV} {k : Nat} (hk : ∀ x, (enc x).length = k) {l : List α} {i : Nat} {C : List PV} (h : i < l.length) : sub (l.flatMap enc ++ C) (i * k) k = some (enc l[i]) := by
  have hl := flat_length enc k hk l
  have h1 : i * k + k ≤ l.length * k := by rw [← Nat.succ_mul]; exact Nat.mul_le_mul_right k h
  have := flat_sub enc k hk l i h
  rw [sub_eq, if_pos (by omega)] at this
  rw [sub_eq, if_pos (by rw [List.length_append]; omega), List.drop_append_of_le_length (by omega), List.take_append_of_le_length (by rw [List.length_drop]; omega)]
  exact this
end Go.Pv
