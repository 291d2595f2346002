/- Loops that build lists, which are seen as never written any more behind them. -/
import Derived.Test.YtnooplpbpfiapaaGreatDoorLVf
namespace Go.Pv
theorem View.acc {α : Type} {row : List α → List PV} {k : Nat} {T : TypeId} {a : Option (Acc α)} (h0 : row [] = []) {e e' : Env} {st st' : q5d} (ha : accOk row k st' a) (hs : StLe (q6o T st' a) st)
  (he : ∀ q ∈ e', q6g e q.1 = q.2 ∨ (q6g e q.1 = k1p a ∧ q.2 = .list false (row (q5y a)) (q5y a).length)) : View ⟨e, st⟩ ⟨e', st'⟩ := by
 cases a with
 | none =>
  refine View.ple hs fun q hq => ?_
  rcases he q hq with h | ⟨h1, h2⟩
  ·exact PLe.of_eq h
  ·rw [h1, h2]
   simp only [z4y, q92, h0, List.length_nil]
   exact PLe.nil1
 | some a =>
  obtain ⟨h1, h2⟩ := ha
  refine View.frz h2 hs fun q hq => ?_
  rcases he q hq with h | ⟨h3, h4⟩
  ·exact Frz.of_eq h
  ·rw [h3, h4]; exact Frz.acc h1
def NextF {σ : Type} (E : σ → Env) (S : σ → q5d) (inv : σ → Prop) (μ : σ → Nat) (fin : σ → Prop) (Ef : σ → Env) (Sf : σ → q5d) (x : σ) (s1 : PS) (_ : Tok (E, S, inv, μ, fin, Ef, Sf, x) := ⟨⟩) : Prop :=
 ∃ y, inv y ∧ μ y < μ x ∧ ((¬ fin y ∧ View s1 ⟨E y, S y⟩) ∨ (fin y ∧ View s1 ⟨Ef y, Sf y⟩))
theorem NextF.intro {σ : Type} {E : σ → Env} {S : σ → q5d} {inv : σ → Prop} {μ : σ → Nat} {fin : σ → Prop} {Ef : σ → Env} {Sf : σ → q5d} {x : σ} {e : Env} {st : q5d}
  (hv : ∀ x, inv x → fin x → View ⟨E x, S x⟩ ⟨Ef x, Sf x⟩) (y : σ) (hi : inv y) (hm : μ y < μ x) (he : ∀ q ∈ E y, q6g e q.1 = q.2) (hs : StLe (S y) st) : NextF E S inv μ fin Ef Sf x ⟨e, st⟩ := by
 have h := View.weak he hs
 by_cases hf : fin y
 ·exact ⟨y, hi, hm, .inr ⟨hf, h.trans (hv y hi hf)⟩⟩
 ·exact ⟨y, hi, hm, .inl ⟨hf, h⟩⟩
theorem k8e {P : Program} {c : MCode} {Q : q7l} {e : Env} {st : q5d} {σ : Type} (E : σ → Env) (S : σ → q5d) (inv : σ → Prop) (μ : σ → Nat) (fin : σ → Prop) (Ef : σ → Env) (Sf : σ → q5d)
  (hv : ∀ x, inv x → fin x → View ⟨E x, S x⟩ ⟨Ef x, Sf x⟩) (x0 : σ) (h0 : inv x0)
  (he : ∀ q ∈ E x0, q6g e q.1 = q.2) (hs : StLe (S x0) st)
  (hf : ∀ x, inv x → fin x → xwp P c (fun e s => k4z (fun s1 => NextF E S inv μ fin Ef Sf x s1) Q e s) ⟨Ef x, Sf x⟩)
  (h : ∀ x, inv x → ¬ fin x → xwp P c (fun e s => k4z (fun s1 => NextF E S inv μ fin Ef Sf x s1) Q e s) ⟨E x, S x⟩) : j5t P c Q ⟨e, st⟩ := by
 refine ⟨fun n s => ∃ x, inv x ∧ μ x = n ∧ ((¬ fin x ∧ s = ⟨E x, S x⟩) ∨ (fin x ∧ s = ⟨Ef x, Sf x⟩)), ?_, ?_⟩
 ·have h1 := View.weak he hs
  by_cases hf : fin x0
  ·exact ⟨μ x0, _, h1.trans (hv x0 h0 hf), x0, h0, rfl, .inr ⟨hf, rfl⟩⟩
  ·exact ⟨μ x0, _, h1, x0, h0, rfl, .inl ⟨hf, rfl⟩⟩
 ·rintro n s ⟨x, hx, rfl, hs⟩
  have hh : xwp P c (fun e s => k4z (fun s1 => NextF E S inv μ fin Ef Sf x s1) Q e s) s := by
   rcases hs with ⟨h1, rfl⟩ | ⟨h1, rfl⟩
   ·exact h x hx h1
   ·exact hf x hx h1
  have e1 : (fun e s => k4z (fun s1 => NextF E S inv μ fin Ef Sf x s1) Q e s) = z53 (fun s1 => NextF E S inv μ fin Ef Sf x s1) Q := rfl
  have e2 : (fun s1 => NextF E S inv μ fin Ef Sf x s1) = (fun s1 => ∃ m, m < μ x ∧ ∃ s', View s1 s' ∧ ∃ y, inv y ∧ μ y = m ∧ ((¬ fin y ∧ s' = ⟨E y, S y⟩) ∨ (fin y ∧ s' = ⟨Ef y, Sf y⟩))) := by
   funext s1
   refine propext ⟨?_, ?_⟩
   ·rintro ⟨y, h1, h2, ⟨h3, h4⟩ | ⟨h3, h4⟩⟩
    ·exact ⟨μ y, h2, _, h4, y, h1, rfl, .inl ⟨h3, rfl⟩⟩
    ·exact ⟨μ y, h2, _, h4, y, h1, rfl, .inr ⟨h3, rfl⟩⟩
   ·rintro ⟨m, h1, s', h2, y, h3, rfl, ⟨h4, rfl⟩ | ⟨h4, rfl⟩⟩
    ·exact ⟨y, h3, h1, .inl ⟨h4, h2⟩⟩
    ·exact ⟨y, h3, h1, .inr ⟨h4, h2⟩⟩
  rw [e1, e2] at hh
  exact hh
theorem k7p {α β : Type} {row : List α → List PV} {k : Nat} (hrl : ∀ l, (row l).length = l.length * k) (hra : ∀ l m, row (l ++ m) = row l ++ row m) {row' : List β → List PV} {k' : Nat} {T T' : TypeId} {bytes : Nat} {st : q5d} {K : PV → q5d → Prop}
  (o : Option (Acc α)) (q : Option (Acc β)) (ho : accOk row k st o) (hq : accOk row' k' (q6o T st o) q) (xs : List α) {new : List PV} {m : Nat} (hnew : row xs = new) (hm : xs.length = m) (hm0 : 0 < m) (hsz : ((q5y o).length + m) * bytes ≤ 140737488355328)
  (h : ∀ o' : Option (Acc α), accOk row k (q6o T' st q) o' → q5y o' = q5y o ++ xs → K (k1p o') (q6o T (q6o T' st q) o')) : q6p T bytes k (k1p o) new m (q6o T' (q6o T st o) q) K := by
 cases o with
 | none =>
  refine q8a hrl xs hnew hm hm0 (by simpa using hsz) fun a' ha' hl' hb' => ?_
  exact h (some a') ⟨ha', hb'⟩ (by simpa using hl')
 | some a =>
  obtain ⟨ha, hb⟩ := ho
  have hg : q5w (q6o T' (q6o T st (some a)) q) a.b = some (.arr T a.R) := by
   cases q with
   | none => simp
   | some y =>
    have h1 : ¬ a.b = y.b := by
     have := hq.2
     simp only [q8q, q6u] at this
     exact this.1.1
    have h2 : ¬ y.b = a.b := fun e => h1 e.symm
    simp [q5w, h2]
  refine q7i hrl hra ha hg xs hnew hm hsz fun a' ha' hl' hb' => ?_
  have e : k20 a.b (q6o T' (q6o T st (some a)) q) = q6o T' st q := by
   cases q with
   | none => simp [q7x hb]
   | some y =>
    have h1 : ¬ a.b = y.b := by
     have := hq.2
     simp only [q8q, q6u] at this
     exact this.1.1
    have h2 : ¬ y.b = a.b := fun e => h1 e.symm
    simp [k20, q7x hb, h2]
  rw [e] at hb' ⊢
  exact h (some a') ⟨ha', hb'⟩ hl'
def j8c {α : Type} : Option (Acc α) → PV
 | none => .list true [] 0
 | some a => .own a.b 0 a.l.length a.cap
@[simp] theorem y4t {α : Type} : j8c (none : Option (Acc α)) = .list true [] 0 := rfl
@[simp] theorem j2y {α : Type} (a : Acc α) : j8c (some a) = .own a.b 0 a.l.length a.cap := rfl
theorem k7q {T : TypeId} {bytes k : Nat} {new : List PV} {m : Nat} {st : q5d} {K : PV → q5d → Prop} (hm : m ≠ 0) (h : q6p T bytes k .nil new m st K) : q6p T bytes k (.list true [] 0) new m st K := by
 simp only [q6p, q86] at h ⊢
 rw [if_neg hm] at h ⊢
 refine ⟨trivial, by simp, ?_⟩
 simpa using h
theorem k3j {α : Type} {row : List α → List PV} {k : Nat} (hrl : ∀ l, (row l).length = l.length * k) {T : TypeId} {bytes : Nat} {st : q5d} {K : PV → q5d → Prop}
  (xs : List α) {new : List PV} {m : Nat} (hnew : row xs = new) (hm : xs.length = m) (hsz : m * bytes ≤ 140737488355328)
  (h : ∀ o : Option (Acc α), accOk row k st o → q5y o = xs → K (j8c o) (q6o T st o)) : q6p T bytes k (.list true [] 0) new m st K := by
 by_cases hm0 : m = 0
 ·have hx : xs = [] := List.length_eq_zero_iff.1 (hm.trans hm0)
  simp only [q6p, q86]
  rw [if_pos hm0]
  exact h none trivial hx.symm
 ·refine k7q hm0 (q8a hrl xs hnew hm (by omega) hsz fun a' ha' hl' hb' => ?_)
  exact h (some a') ⟨ha', hb'⟩ hl'
theorem z42 {α : Type} {row : List α → List PV} {k : Nat} (hrl : ∀ l, (row l).length = l.length * k) (hra : ∀ l m, row (l ++ m) = row l ++ row m) {T : TypeId} {bytes : Nat} {st : q5d} {K : PV → q5d → Prop}
  (o : Option (Acc α)) (ho : accOk row k st o) (xs : List α) {new : List PV} {m : Nat} (hnew : row xs = new) (hm : xs.length = m) (hm0 : 0 < m) (hsz : ((q5y o).length + m) * bytes ≤ 140737488355328)
  (h : ∀ a : Acc α, a.Ok row k → q6u st a.b → a.l = q5y o ++ xs → K (.own a.b 0 a.l.length a.cap) ((a.b, .arr T a.R) :: st)) : q6p T bytes k (j8c o) new m (q6o T st o) K := by
 cases o with
 | none =>
  refine k7q (by omega) (q8a hrl xs hnew hm hm0 (by simpa using hsz) fun a' ha' hl' hb' => ?_)
  exact h a' ha' hb' (by simpa using hl')
 | some a =>
  obtain ⟨ha, hb⟩ := ho
  refine q7i hrl hra ha (by simp) xs hnew hm hsz fun a' ha' hl' hb' => ?_
  have e : k20 a.b (q6o T st (some a)) = st := by simp [q7x hb]
  rw [e] at hb' ⊢
  exact h a' ha' hb' hl'
theorem k50 {α : Type} {row : List α → List PV} {k : Nat} (hrl : ∀ l, (row l).length = l.length * k) (hra : ∀ l m, row (l ++ m) = row l ++ row m) {T : TypeId} {bytes : Nat} {st : q5d} {K : PV → q5d → Prop}
  (o : Option (Acc α)) (ho : accOk row k st o) (xs : List α) {new : List PV} {m : Nat} (hnew : row xs = new) (hm : xs.length = m) (hsz : ((q5y o).length + m) * bytes ≤ 140737488355328)
  (h : ∀ o' : Option (Acc α), accOk row k st o' → q5y o' = q5y o ++ xs → K (j8c o') (q6o T st o')) : q6p T bytes k (j8c o) new m (q6o T st o) K := by
 cases o with
 | none => exact k3j hrl xs hnew hm (by simpa using hsz) fun o' ho' hl' => h o' ho' (by simpa using hl')
 | some a =>
  obtain ⟨ha, hb⟩ := ho
  refine q7i hrl hra ha (by simp) xs hnew hm hsz fun a' ha' hl' hb' => ?_
  have e : k20 a.b (q6o T st (some a)) = st := by simp [q7x hb]
  rw [e] at hb' ⊢
  exact h (some a') ⟨ha', hb'⟩ hl'
theorem k51 {P : Program} {g : FuncId} {ps qs : List PV} {b : Nat} {o : PObj} {st st' : q5d} {p : PV} (hb : q6u st' b) (hs : StLe ((b, o) :: st') st) (ha : Frzs b o ps qs) (h : Rets P g qs st' p) {Q : PEnd → q5d → Prop} (hk : Q (.ret p) st') : xcall P g ps st Q :=
 PCalls.mono (PCalls.frz hb hs ha h) fun e s ⟨h1, h2⟩ => by subst h1; subst h2; exact hk
theorem z99 {α : Type} {row : List α → List PV} {k : Nat} {T : TypeId} (hr0 : row [] = []) {P : Program} {g : FuncId} {st : q5d} {o : Option (Acc α)} (ho : accOk row k st o) {p : PV} (h : Rets P g [.list false (row (q5y o)) (q5y o).length] st p) {Q : PEnd → q5d → Prop} (hk : Q (.ret p) st) :
  xcall P g [j8c o] (q6o T st o) Q := by
 cases o with
 | none =>
  refine Rets.xcall (Rets.args (qs := [.list false [] 0]) ?_ (by simpa [hr0] using h)) hk
  exact ⟨.loose, trivial⟩
 | some a =>
  obtain ⟨h1, h2⟩ := ho
  exact k51 h2 (.refl _) (.cons (Frz.acc h1) .nil) h hk
def q6j (l : List Int) : List PV := l.map .int
abbrev q5k (t : Bool) (l : List Int) : PV := .list t (q6j l) l.length
@[simp] theorem y2e : q6j [] = [] := rfl
theorem k34 (l : List Int) : (q6j l).length = l.length * 1 := by simp [q6j]
@[simp] theorem z27 (l : List Int) : (q6j l).length = l.length := by simp [q6j]
theorem k0j (l m : List Int) : q6j (l ++ m) = q6j l ++ q6j m := by simp [q6j]
@[simp] theorem q6d (l : List Int) (i : Nat) (h : i < l.length) : (q6j l)[i]? = some (.int l[i]) := by simp [q6j, h]
@[simp] theorem q9n (l : List Int) (i : Nat) (h : i < (q6j l).length) : (q6j l)[i]'h = .int (l[i]'(by rw [z27] at h; exact h)) := by simp [q6j]
end Go.Pv
