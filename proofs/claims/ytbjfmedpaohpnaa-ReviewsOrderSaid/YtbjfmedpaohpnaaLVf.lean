/- Rows of one's own that are seen as lists from a round's head on. -/
import Derived.Test.YtbjfmedpaohpnaaLBr
namespace Go.Pv
theorem eget_in {e : Env} {t : Nat} : eget e t = .any ∨ ∃ q ∈ e, q.1 = t ∧ eget e t = q.2 := by
  induction e with
  | nil => exact .inl rfl
  | cons p e ih =>
    obtain ⟨u, p⟩ := p
    simp only [eget]
    split
    · rename_i h; exact .inr ⟨(u, p), by simp, h, rfl⟩
    · rcases ih with h | ⟨q, h1, h2, h3⟩
      · exact .inl h
      · exact .inr ⟨q, by simp [h1], h2, h3⟩
theorem View.frz {e e' : Env} {st st' : Store} {b : Nat} {o : PObj} (hb : snew st' b) (hs : StLe ((b, o) :: st') st) (he : ∀ q ∈ e', Frz b o (eget e q.1) q.2) : View ⟨e, st⟩ ⟨e', st'⟩ := fun I tm w h1 h2 => by
  obtain ⟨I', h3, h4, h5⟩ := (h2.le hs).freeze hb
  refine ⟨I', h3, fun t => ?_, h4⟩
  rcases eget_in (e := e') (t := t) with h | ⟨q, hq, rfl, h⟩
  · simp only [h, vrep]
  · simp only [h]
    exact (he q hq).vrep h5 (vrep_mono h3 _ _ (h1 q.1))
theorem View.ple {e e' : Env} {st st' : Store} (hs : StLe st' st) (he : ∀ q ∈ e', PLe (eget e q.1) q.2) : View ⟨e, st⟩ ⟨e', st'⟩ := fun I tm w h1 h2 =>
  ⟨I, I.le_refl, fun t => by
    rcases eget_in (e := e') (t := t) with h | ⟨q, hq, rfl, h⟩
    · simp only [h, vrep]
    · simp only [h]
      exact he q hq I _ (h1 q.1), h2.le hs⟩
theorem PLe.of_eq {p q : PV} (h : p = q) : PLe p q := h ▸ .refl p
theorem PLe.nil1 : PLe .nil (.list false [] 0) := .trans .nil .loose
theorem Frz.of_eq {b : Nat} {o : PObj} {p q : PV} (h : p = q) : Frz b o p q := h ▸ .refl p
theorem Frz.acc {α : Type} {row : List α → List PV} {k : Nat} {T : TypeId} {a : Acc α} (ha : a.Ok row k) : Frz a.b (.arr T a.R) (.own a.b 0 a.l.length a.cap) (.list false (row a.l) a.l.length) := by
  have h := Frz.own (b := a.b) (o := .arr T a.R) T a.R 0 a.l.length a.cap k rfl ha.le ha.cap
  rwa [List.drop_zero, ha.row] at h
theorem Next.view {σ : Type} {E : σ → Env} {S : σ → Store} {inv : σ → Prop} {μ : σ → Nat} {x : σ} {s : PS} (y : σ) (hi : inv y) (hm : μ y < μ x) (hv : View s ⟨E y, S y⟩) : Next E S inv μ x s := ⟨y, hi, hm, hv⟩
theorem xloop_view {P : Program} {c : MCode} {Q : MPost} {e : Env} {st : Store} {σ : Type} (E : σ → Env) (S : σ → Store) (inv : σ → Prop) (μ : σ → Nat) (x0 : σ) (h0 : inv x0) (hv : View ⟨e, st⟩ ⟨E x0, S x0⟩)
    (h : ∀ x, inv x → xwp P c (fun e s => xthen (fun s1 => Next E S inv μ x s1) Q e s) ⟨E x, S x⟩) : xloop P c Q ⟨e, st⟩ := by
  refine ⟨fun n s => ∃ x, inv x ∧ μ x = n ∧ s = ⟨E x, S x⟩, ⟨μ x0, ⟨E x0, S x0⟩, hv, x0, h0, rfl, rfl⟩, ?_⟩
  rintro n s ⟨x, hx, rfl, rfl⟩
  have hh := h x hx
  have e1 : (fun e s => xthen (fun s1 => Next E S inv μ x s1) Q e s) = mthen (fun s1 => Next E S inv μ x s1) Q := rfl
  have e2 : (fun s1 => Next E S inv μ x s1) = (fun s1 => ∃ m, m < μ x ∧ ∃ s', View s1 s' ∧ ∃ y, inv y ∧ μ y = m ∧ s' = ⟨E y, S y⟩) := by
    funext s1
    refine propext ⟨fun ⟨y, h1, h2, h3⟩ => ⟨μ y, h2, _, h3, y, h1, rfl, rfl⟩, fun ⟨m, h1, s', h2, y, h3, h4, h5⟩ => ?_⟩
    subst h4; subst h5
    exact ⟨y, h3, h1, h2⟩
  rw [e1, e2] at hh
  exact hh
end Go.Pv
