/- Loops, rows of structs. -/
import Derived.Test.YtbjfmedpaohpnaaLEv
import Derived.IntWalk
namespace Go.Pv

/-- The next round's head. -/
def Next {σ : Type} (E : σ → Env) (S : σ → Store) (inv : σ → Prop) (μ : σ → Nat) (x : σ) (s1 : PS) (_ : Tok (E, S, inv, μ, x) := ⟨⟩) : Prop := ∃ y, inv y ∧ μ y < μ x ∧ View s1 ⟨E y, S y⟩
theorem Next.intro {σ : Type} {E : σ → Env} {S : σ → Store} {inv : σ → Prop} {μ : σ → Nat} {x : σ} {e : Env} {st : Store} (y : σ) (hi : inv y) (hm : μ y < μ x) (he : ∀ q ∈ E y, eget e q.1 = q.2) (hs : StLe (S y) st) : Next E S inv μ x ⟨e, st⟩ :=
  ⟨y, hi, hm, View.weak he hs⟩
/-- A loop by what stands at its rounds' heads. -/
theorem xloop_for {P : Program} {c : MCode} {Q : MPost} {e : Env} {st : Store} {σ : Type} (E : σ → Env) (S : σ → Store) (inv : σ → Prop) (μ : σ → Nat) (x0 : σ) (h0 : inv x0)
    (he : ∀ q ∈ E x0, eget e q.1 = q.2) (hs : StLe (S x0) st)
    (h : ∀ x, inv x → xwp P c (fun e s => xthen (fun s1 => Next E S inv μ x s1) Q e s) ⟨E x, S x⟩) : xloop P c Q ⟨e, st⟩ := by
  refine ⟨fun n s => ∃ x, inv x ∧ μ x = n ∧ s = ⟨E x, S x⟩, ⟨μ x0, ⟨E x0, S x0⟩, View.weak he hs, x0, h0, rfl, rfl⟩, ?_⟩
  rintro n s ⟨x, hx, rfl, rfl⟩
  have hh := h x hx
  have e1 : (fun e s => xthen (fun s1 => Next E S inv μ x s1) Q e s) = mthen (fun s1 => Next E S inv μ x s1) Q := rfl
  have e2 : (fun s1 => Next E S inv μ x s1) = (fun s1 => ∃ m, m < μ x ∧ ∃ s', View s1 s' ∧ ∃ y, inv y ∧ μ y = m ∧ s' = ⟨E y, S y⟩) := by
    funext s1
    refine propext ⟨fun ⟨y, h1, h2, h3⟩ => ⟨μ y, h2, _, h3, y, h1, rfl, rfl⟩, fun ⟨m, h1, s', h2, y, h3, h4, h5⟩ => ?_⟩
    subst h4; subst h5
    exact ⟨y, h3, h1, h2⟩
  rw [e1, e2] at hh
  exact hh

/-! ### What arguments may be taken to be -/
def Sound (ps : List PV) (st : Store) : Prop := ∃ I w vs, SRep I st w ∧ vreps I ps vs
theorem Has.enters {P : Program} {g : FuncId} {m : MFunc} (h : Has P g m) : Enters P g := by
  obtain ⟨fn, h1, h2, h3⟩ := h
  refine ⟨fn, h1, h2, ?_⟩
  unfold convFunc at h3
  split at h3
  · rename_i c hc; rw [hc]; rfl
  · cases h3
theorem Has.sound {P : Program} {g : FuncId} {m : MFunc} (h : Has P g m) {ps : List PV} {st : Store} {Q : PEnd → Store → Prop} (hk : Sound ps st → PCalls P g ps st Q) : PCalls P g ps st Q :=
  .inl ⟨h.enters, fun I w vs h1 h2 => by
    rcases hk ⟨I, w, vs, h1, h2⟩ with hk | hk
    · exact hk.out I w vs h1 h2
    · obtain ⟨v, w', h3, -⟩ := hk.out I w vs h1 h2
      rw [callFunc_run h.enters] at h3
      cases h3⟩
theorem vreps_mem {I : Imm} : ∀ {ps : List PV} {vs : List Value} {p : PV}, vreps I ps vs → p ∈ ps → ∃ v, vrep I p v
  | [], _, _, _, h => by simp at h
  | _ :: _, [], _, h, _ => by simp [vreps] at h
  | q :: ps, v :: vs, p, h, hm => by
    simp only [vreps] at h
    rcases List.mem_cons.1 hm with rfl | hm
    · exact ⟨v, h.1⟩
    · exact vreps_mem h.2 hm
theorem Sound.list_le {ps : List PV} {st : Store} (h : Sound ps st) {t : Bool} {cs : List PV} {n : Nat} (hm : PV.list t cs n ∈ ps) : n ≤ 9223372036854775807 := by
  obtain ⟨I, w, vs, -, hv⟩ := h
  obtain ⟨v, hv⟩ := vreps_mem hv hm
  simp only [vrep] at hv
  obtain ⟨a, cap, us, -, h1, h2, -⟩ := hv
  unfold maxLen at h2
  omega

/-! ### Rows of structs -/
section
variable {α : Type} (enc : α → List PV) (k : Nat)
theorem flat_length (hk : ∀ x, (enc x).length = k) : ∀ l : List α, (l.flatMap enc).length = l.length * k
  | [] => by simp
  | x :: l => by simp [flat_length hk l, hk, Nat.succ_mul, Nat.add_comm]
theorem flat_drop (hk : ∀ x, (enc x).length = k) : ∀ (l : List α) (i : Nat), (l.flatMap enc).drop (i * k) = (l.drop i).flatMap enc
  | [], i => by simp
  | x :: l, 0 => by simp
  | x :: l, i + 1 => by
    have e : (i + 1) * k = (enc x).length + i * k := by rw [hk, Nat.succ_mul, Nat.add_comm]
    rw [List.flatMap_cons, e, List.drop_append, List.drop_succ_cons]
    simp only [Nat.add_sub_cancel_left, List.drop_eq_nil_of_le (Nat.le_add_right _ _), List.nil_append]
    exact flat_drop hk l i
theorem flat_take (hk : ∀ x, (enc x).length = k) : ∀ (l : List α) (i : Nat), (l.flatMap enc).take (i * k) = (l.take i).flatMap enc
  | [], i => by simp
  | x :: l, 0 => by simp
  | x :: l, i + 1 => by
    have e : (i + 1) * k = (enc x).length + i * k := by rw [hk, Nat.succ_mul, Nat.add_comm]
    rw [List.flatMap_cons, e, List.take_append, List.take_succ_cons, List.flatMap_cons]
    simp only [Nat.add_sub_cancel_left, List.take_of_length_le (Nat.le_add_right _ _)]
    rw [flat_take hk l i]
theorem flat_sub (hk : ∀ x, (enc x).length = k) (l : List α) (i : Nat) (h : i < l.length) : sub (l.flatMap enc) (i * k) k = some (enc l[i]) := by
  have hl := flat_length enc k hk l
  have h1 : i * k + k ≤ l.length * k := by rw [← Nat.succ_mul]; exact Nat.mul_le_mul_right k h
  rw [sub_eq, if_pos (by rw [hl]; exact h1), flat_drop enc k hk, List.drop_eq_getElem_cons h, List.flatMap_cons]
  rw [List.take_append_of_le_length (by rw [hk]; exact Nat.le_refl _), List.take_of_length_le (by rw [hk]; exact Nat.le_refl _)]
theorem flat_get (hk : ∀ x, (enc x).length = k) (l : List α) (i j : Nat) (h : i < l.length) (hj : j < k) : (l.flatMap enc)[i * k + j]? = (enc l[i])[j]? := by
  rw [← List.getElem?_drop, flat_drop enc k hk, List.drop_eq_getElem_cons h, List.flatMap_cons, List.getElem?_append_left (by rw [hk]; exact hj)]
end
end Go.Pv
