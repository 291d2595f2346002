/- Loops that build lists, which are seen as never written any more behind them. -/
import Derived.Test.YtliglilanpfjhaaLVf
namespace Go.Pv
theorem View.acc {α : Type} {row : List α → List PV} {k : Nat} {T : TypeId} {a : Option (Acc α)} (h0 : row [] = []) {e e' : Env} {st st' : Store} (ha : accOk row k st' a) (hs : StLe (accS T st' a) st)
    (he : ∀ q ∈ e', eget e q.1 = q.2 ∨ (eget e q.1 = accP a ∧ q.2 = .list false (row (accL a)) (accL a).length)) : View ⟨e, st⟩ ⟨e', st'⟩ := by
  cases a with
  | none =>
    refine View.ple hs fun q hq => ?_
    rcases he q hq with h | ⟨h1, h2⟩
    · exact PLe.of_eq h
    · rw [h1, h2]
      simp only [accP_none, accL_none, h0, List.length_nil]
      exact PLe.nil1
  | some a =>
    obtain ⟨h1, h2⟩ := ha
    refine View.frz h2 hs fun q hq => ?_
    rcases he q hq with h | ⟨h3, h4⟩
    · exact Frz.of_eq h
    · rw [h3, h4]; exact Frz.acc h1
/-- The next round's head, or the last one, seen otherwise. -/
def NextF {σ : Type} (E : σ → Env) (S : σ → Store) (inv : σ → Prop) (μ : σ → Nat) (fin : σ → Prop) (Ef : σ → Env) (Sf : σ → Store) (x : σ) (s1 : PS) (_ : Tok (E, S, inv, μ, fin, Ef, Sf, x) := ⟨⟩) : Prop :=
  ∃ y, inv y ∧ μ y < μ x ∧ ((¬ fin y ∧ View s1 ⟨E y, S y⟩) ∨ (fin y ∧ View s1 ⟨Ef y, Sf y⟩))
theorem NextF.intro {σ : Type} {E : σ → Env} {S : σ → Store} {inv : σ → Prop} {μ : σ → Nat} {fin : σ → Prop} {Ef : σ → Env} {Sf : σ → Store} {x : σ} {e : Env} {st : Store}
    (hv : ∀ x, inv x → fin x → View ⟨E x, S x⟩ ⟨Ef x, Sf x⟩) (y : σ) (hi : inv y) (hm : μ y < μ x) (he : ∀ q ∈ E y, eget e q.1 = q.2) (hs : StLe (S y) st) : NextF E S inv μ fin Ef Sf x ⟨e, st⟩ := by
  have h := View.weak he hs
  by_cases hf : fin y
  · exact ⟨y, hi, hm, .inr ⟨hf, h.trans (hv y hi hf)⟩⟩
  · exact ⟨y, hi, hm, .inl ⟨hf, h⟩⟩
theorem xloop_fz {P : Program} {c : MCode} {Q : MPost} {e : Env} {st : Store} {σ : Type} (E : σ → Env) (S : σ → Store) (inv : σ → Prop) (μ : σ → Nat) (fin : σ → Prop) (Ef : σ → Env) (Sf : σ → Store)
    (hv : ∀ x, inv x → fin x → View ⟨E x, S x⟩ ⟨Ef x, Sf x⟩) (x0 : σ) (h0 : inv x0)
    (he : ∀ q ∈ E x0, eget e q.1 = q.2) (hs : StLe (S x0) st)
    (hf : ∀ x, inv x → fin x → xwp P c (fun e s => xthen (fun s1 => NextF E S inv μ fin Ef Sf x s1) Q e s) ⟨Ef x, Sf x⟩)
    (h : ∀ x, inv x → ¬ fin x → xwp P c (fun e s => xthen (fun s1 => NextF E S inv μ fin Ef Sf x s1) Q e s) ⟨E x, S x⟩) : xloop P c Q ⟨e, st⟩ := by
  refine ⟨fun n s => ∃ x, inv x ∧ μ x = n ∧ ((¬ fin x ∧ s = ⟨E x, S x⟩) ∨ (fin x ∧ s = ⟨Ef x, Sf x⟩)), ?_, ?_⟩
  · have h1 := View.weak he hs
    by_cases hf : fin x0
    · exact ⟨μ x0, _, h1.trans (hv x0 h0 hf), x0, h0, rfl, .inr ⟨hf, rfl⟩⟩
    · exact ⟨μ x0, _, h1, x0, h0, rfl, .inl ⟨hf, rfl⟩⟩
  · rintro n s ⟨x, hx, rfl, hs⟩
    have hh : xwp P c (fun e s => xthen (fun s1 => NextF E S inv μ fin Ef Sf x s1) Q e s) s := by
      rcases hs with ⟨h1, rfl⟩ | ⟨h1, rfl⟩
      · exact h x hx h1
      · exact hf x hx h1
    have e1 : (fun e s => xthen (fun s1 => NextF E S inv μ fin Ef Sf x s1) Q e s) = mthen (fun s1 => NextF E S inv μ fin Ef Sf x s1) Q := rfl
    have e2 : (fun s1 => NextF E S inv μ fin Ef Sf x s1) = (fun s1 => ∃ m, m < μ x ∧ ∃ s', View s1 s' ∧ ∃ y, inv y ∧ μ y = m ∧ ((¬ fin y ∧ s' = ⟨E y, S y⟩) ∨ (fin y ∧ s' = ⟨Ef y, Sf y⟩))) := by
      funext s1
      refine propext ⟨?_, ?_⟩
      · rintro ⟨y, h1, h2, ⟨h3, h4⟩ | ⟨h3, h4⟩⟩
        · exact ⟨μ y, h2, _, h4, y, h1, rfl, .inl ⟨h3, rfl⟩⟩
        · exact ⟨μ y, h2, _, h4, y, h1, rfl, .inr ⟨h3, rfl⟩⟩
      · rintro ⟨m, h1, s', h2, y, h3, rfl, ⟨h4, rfl⟩ | ⟨h4, rfl⟩⟩
        · exact ⟨y, h3, h1, .inl ⟨h4, h2⟩⟩
        · exact ⟨y, h3, h1, .inr ⟨h4, h2⟩⟩
    rw [e1, e2] at hh
    exact hh
/-! ### Two lists that are built side by side -/
theorem xappend_accB {α β : Type} {row : List α → List PV} {k : Nat} (hrl : ∀ l, (row l).length = l.length * k) (hra : ∀ l m, row (l ++ m) = row l ++ row m) {row' : List β → List PV} {k' : Nat} {T T' : TypeId} {bytes : Nat} {st : Store} {K : PV → Store → Prop}
    (o : Option (Acc α)) (q : Option (Acc β)) (ho : accOk row k st o) (hq : accOk row' k' (accS T st o) q) (xs : List α) {new : List PV} {m : Nat} (hnew : row xs = new) (hm : xs.length = m) (hm0 : 0 < m) (hsz : ((accL o).length + m) * bytes ≤ 140737488355328)
    (h : ∀ o' : Option (Acc α), accOk row k (accS T' st q) o' → accL o' = accL o ++ xs → K (accP o') (accS T (accS T' st q) o')) : xappend T bytes k (accP o) new m (accS T' (accS T st o) q) K := by
  cases o with
  | none =>
    refine xappend_acc0 hrl xs hnew hm hm0 (by simpa using hsz) fun a' ha' hl' hb' => ?_
    exact h (some a') ⟨ha', hb'⟩ (by simpa using hl')
  | some a =>
    obtain ⟨ha, hb⟩ := ho
    have hg : sget (accS T' (accS T st (some a)) q) a.b = some (.arr T a.R) := by
      cases q with
      | none => simp
      | some y =>
        have h1 : ¬ a.b = y.b := by
          have := hq.2
          simp only [accS_some, snew] at this
          exact this.1.1
        have h2 : ¬ y.b = a.b := fun e => h1 e.symm
        simp [sget, h2]
    refine xappend_acc hrl hra ha hg xs hnew hm hsz fun a' ha' hl' hb' => ?_
    have e : sdel a.b (accS T' (accS T st (some a)) q) = accS T' st q := by
      cases q with
      | none => simp [sdel_of_new hb]
      | some y =>
        have h1 : ¬ a.b = y.b := by
          have := hq.2
          simp only [accS_some, snew] at this
          exact this.1.1
        have h2 : ¬ y.b = a.b := fun e => h1 e.symm
        simp [sdel, sdel_of_new hb, h2]
    rw [e] at hb' ⊢
    exact h (some a') ⟨ha', hb'⟩ hl'
theorem accOk.weak {α β : Type} {row : List α → List PV} {k : Nat} {T : TypeId} {st : Store} {o : Option (Acc α)} {q : Option (Acc β)} (ho : accOk row k (accS T st q) o) : accOk row k st o := by
  cases o with
  | none => trivial
  | some a =>
    cases q with
    | none => exact ho
    | some y =>
      have h := ho.2
      simp only [accS_some, snew] at h
      exact ⟨ho.1, h.2⟩
theorem accOk.swap {α β : Type} {row : List α → List PV} {k : Nat} {row' : List β → List PV} {k' : Nat} {T T' : TypeId} {st : Store} {o : Option (Acc α)} {q : Option (Acc β)} (ho : accOk row k (accS T' st q) o) (hq : accOk row' k' st q) :
    accOk row k st o ∧ accOk row' k' (accS T st o) q := by
  cases o with
  | none => exact ⟨trivial, hq⟩
  | some a =>
    cases q with
    | none => exact ⟨ho, trivial⟩
    | some y =>
      have h := ho.2
      simp only [accS_some, snew] at h
      refine ⟨⟨ho.1, h.2⟩, hq.1, ?_⟩
      simp only [accS_some, snew]
      exact ⟨⟨h.1.2, h.1.1⟩, hq.2⟩
theorem StLe.accs_swap {α β : Type} {row : List α → List PV} {k : Nat} {T T' : TypeId} {st : Store} {o : Option (Acc α)} {q : Option (Acc β)} (ho : accOk row k (accS T' st q) o) : StLe (accS T' (accS T st o) q) (accS T (accS T' st q) o) := by
  cases o with
  | none => exact .refl _
  | some a =>
    cases q with
    | none => exact .refl _
    | some y =>
      have h := ho.2
      simp only [accS_some, snew] at h
      exact StLe.swap h.1.1
/-- Some cells of an element of a row are written. -/
theorem flat_setAt {α : Type} (enc : α → List PV) (k : Nat) (hk : ∀ x, (enc x).length = k) : ∀ (l : List α) (i j : Nat) (ps : List PV) (y : α) (h : i < l.length), setCells (enc l[i]) j ps = enc y → j + ps.length ≤ k → setCells (l.flatMap enc) (i * k + j) ps = (l.set i y).flatMap enc
  | [], i, _, _, _, h, _, _ => by simp at h
  | x :: l, 0, j, ps, y, _, h1, h2 => by
    simp only [List.getElem_cons_zero] at h1
    rw [Nat.zero_mul, Nat.zero_add, List.flatMap_cons, setCells_append_left _ _ _ _ (by rw [hk]; omega), h1]
    rfl
  | x :: l, i + 1, j, ps, y, h, h1, h2 => by
    simp only [List.getElem_cons_succ] at h1
    have e : (i + 1) * k + j = (enc x).length + (i * k + j) := by rw [hk, Nat.succ_mul]; omega
    rw [List.flatMap_cons, e, setCells_append_right, flat_setAt enc k hk l i j ps y (by simpa using h) h1 h2]
    rfl
/-- A row that has just been made. -/
theorem Acc.raw {α : Type} {row : List α → List PV} {k : Nat} (hrl : ∀ l, (row l).length = l.length * k) (l : List α) (b cap : Nat) (h1 : l.length ≤ cap) (h2 : cap ≤ 9223372036854775807) :
    (Acc.mk l b cap (row l ++ List.replicate ((cap - l.length) * k) .any)).Ok row k := by
  have e : l.length * k + (cap - l.length) * k = cap * k := by rw [← Nat.add_mul]; congr 1; omega
  refine ⟨h1, h2, ?_, ?_⟩
  · simp only [List.length_append, List.length_replicate, hrl]; exact e
  · simp only
    rw [List.take_left' (hrl l)]
/-- A copy that is being built: a literal without elements at first. -/
def accT {α : Type} : Option (Acc α) → PV
  | none => .list true [] 0
  | some a => .own a.b 0 a.l.length a.cap
@[simp] theorem accT_none {α : Type} : accT (none : Option (Acc α)) = .list true [] 0 := rfl
@[simp] theorem accT_some {α : Type} (a : Acc α) : accT (some a) = .own a.b 0 a.l.length a.cap := rfl
theorem xappend_lit0 {T : TypeId} {bytes k : Nat} {new : List PV} {m : Nat} {st : Store} {K : PV → Store → Prop} (hm : m ≠ 0) (h : xappend T bytes k .nil new m st K) : xappend T bytes k (.list true [] 0) new m st K := by
  simp only [xappend, appendK] at h ⊢
  rw [if_neg hm] at h ⊢
  refine ⟨trivial, by simp, ?_⟩
  simpa using h
theorem xappend_copy {α : Type} {row : List α → List PV} {k : Nat} (hrl : ∀ l, (row l).length = l.length * k) {T : TypeId} {bytes : Nat} {st : Store} {K : PV → Store → Prop}
    (xs : List α) {new : List PV} {m : Nat} (hnew : row xs = new) (hm : xs.length = m) (hsz : m * bytes ≤ 140737488355328)
    (h : ∀ o : Option (Acc α), accOk row k st o → accL o = xs → K (accT o) (accS T st o)) : xappend T bytes k (.list true [] 0) new m st K := by
  by_cases hm0 : m = 0
  · have hx : xs = [] := List.length_eq_zero_iff.1 (hm.trans hm0)
    simp only [xappend, appendK]
    rw [if_pos hm0]
    exact h none trivial hx.symm
  · refine xappend_lit0 hm0 (xappend_acc0 hrl xs hnew hm (by omega) hsz fun a' ha' hl' hb' => ?_)
    exact h (some a') ⟨ha', hb'⟩ hl'
theorem xappend_accT {α : Type} {row : List α → List PV} {k : Nat} (hrl : ∀ l, (row l).length = l.length * k) (hra : ∀ l m, row (l ++ m) = row l ++ row m) {T : TypeId} {bytes : Nat} {st : Store} {K : PV → Store → Prop}
    (o : Option (Acc α)) (ho : accOk row k st o) (xs : List α) {new : List PV} {m : Nat} (hnew : row xs = new) (hm : xs.length = m) (hm0 : 0 < m) (hsz : ((accL o).length + m) * bytes ≤ 140737488355328)
    (h : ∀ a : Acc α, a.Ok row k → snew st a.b → a.l = accL o ++ xs → K (.own a.b 0 a.l.length a.cap) ((a.b, .arr T a.R) :: st)) : xappend T bytes k (accT o) new m (accS T st o) K := by
  cases o with
  | none =>
    refine xappend_lit0 (by omega) (xappend_acc0 hrl xs hnew hm hm0 (by simpa using hsz) fun a' ha' hl' hb' => ?_)
    exact h a' ha' hb' (by simpa using hl')
  | some a =>
    obtain ⟨ha, hb⟩ := ho
    refine xappend_acc hrl hra ha (by simp) xs hnew hm hsz fun a' ha' hl' hb' => ?_
    have e : sdel a.b (accS T st (some a)) = st := by simp [sdel_of_new hb]
    rw [e] at hb' ⊢
    exact h a' ha' hb' hl'
/-- The same, any number of elements. -/
theorem xappend_accT0 {α : Type} {row : List α → List PV} {k : Nat} (hrl : ∀ l, (row l).length = l.length * k) (hra : ∀ l m, row (l ++ m) = row l ++ row m) {T : TypeId} {bytes : Nat} {st : Store} {K : PV → Store → Prop}
    (o : Option (Acc α)) (ho : accOk row k st o) (xs : List α) {new : List PV} {m : Nat} (hnew : row xs = new) (hm : xs.length = m) (hsz : ((accL o).length + m) * bytes ≤ 140737488355328)
    (h : ∀ o' : Option (Acc α), accOk row k st o' → accL o' = accL o ++ xs → K (accT o') (accS T st o')) : xappend T bytes k (accT o) new m (accS T st o) K := by
  cases o with
  | none => exact xappend_copy hrl xs hnew hm (by simpa using hsz) fun o' ho' hl' => h o' ho' (by simpa using hl')
  | some a =>
    obtain ⟨ha, hb⟩ := ho
    refine xappend_acc hrl hra ha (by simp) xs hnew hm hsz fun a' ha' hl' hb' => ?_
    have e : sdel a.b (accS T st (some a)) = st := by simp [sdel_of_new hb]
    rw [e] at hb' ⊢
    exact h (some a') ⟨ha', hb'⟩ hl'
theorem RetView.accT1 {α : Type} {row : List α → List PV} {k : Nat} {Q : PEnd → Store → Prop} {T : TypeId} {st : Store} {o : Option (Acc α)} (hr0 : row [] = []) (ho : accOk row k st o) (h : RetView .ret (.list false (row (accL o)) (accL o).length) st Q) : RetView .ret (accT o) (accS T st o) Q := by
  cases o with
  | none =>
    simp only [accT_none, accS_none]
    refine RetView.loose1 (t := true) ?_
    simpa [hr0] using h
  | some a => exact RetView.accP1 (o := some a) hr0 ho h
/-- A call with a list that was built: from here on it is never written any more. -/
theorem xcall_frz {P : Program} {g : FuncId} {ps qs : List PV} {b : Nat} {o : PObj} {st st' : Store} {p : PV} (hb : snew st' b) (hs : StLe ((b, o) :: st') st) (ha : Frzs b o ps qs) (h : Rets P g qs st' p) {Q : PEnd → Store → Prop} (hk : Q (.ret p) st') : xcall P g ps st Q :=
  PCalls.mono (PCalls.frz hb hs ha h) fun e s ⟨h1, h2⟩ => by subst h1; subst h2; exact hk
theorem xcall_accT {α : Type} {row : List α → List PV} {k : Nat} {T : TypeId} (hr0 : row [] = []) {P : Program} {g : FuncId} {st : Store} {o : Option (Acc α)} (ho : accOk row k st o) {p : PV} (h : Rets P g [.list false (row (accL o)) (accL o).length] st p) {Q : PEnd → Store → Prop} (hk : Q (.ret p) st) :
    xcall P g [accT o] (accS T st o) Q := by
  cases o with
  | none =>
    refine Rets.xcall (Rets.args (qs := [.list false [] 0]) ?_ (by simpa [hr0] using h)) hk
    exact ⟨.loose, trivial⟩
  | some a =>
    obtain ⟨h1, h2⟩ := ho
    exact xcall_frz h2 (.refl _) (.cons (Frz.acc h1) .nil) h hk
/-! ### Rows of ints -/
def intRow (l : List Int) : List PV := l.map .int
abbrev intLst (t : Bool) (l : List Int) : PV := .list t (intRow l) l.length
@[simp] theorem intRow_nil : intRow [] = [] := rfl
theorem intRow_len (l : List Int) : (intRow l).length = l.length * 1 := by simp [intRow]
@[simp] theorem intRow_length (l : List Int) : (intRow l).length = l.length := by simp [intRow]
theorem intRow_append (l m : List Int) : intRow (l ++ m) = intRow l ++ intRow m := by simp [intRow]
@[simp] theorem intRow_get (l : List Int) (i : Nat) (h : i < l.length) : (intRow l)[i]? = some (.int l[i]) := by simp [intRow, h]
@[simp] theorem intRow_getE (l : List Int) (i : Nat) (h : i < (intRow l).length) : (intRow l)[i]'h = .int (l[i]'(by rw [intRow_length] at h; exact h)) := by simp [intRow]
theorem intRow_one (n : Int) : intRow [n] = [.int n] := rfl
end Go.Pv
