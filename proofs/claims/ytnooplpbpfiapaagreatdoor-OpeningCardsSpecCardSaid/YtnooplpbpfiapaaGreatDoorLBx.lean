/- A box beside an accumulator. -/
import Derived.Test.YtnooplpbpfiapaaGreatDoorLFr
import Derived.Test.YtnooplpbpfiapaaGreatDoorLVf
import Derived.Test.YtnooplpbpfiapaaGreatDoorLNt
namespace Go.Pv
def accB {α : Type} : Option (Acc α) → List Nat
 | none => []
 | some a => [a.b]
theorem Cls_box {α : Type} {T : TypeId} {b : Nat} {x : PObj} {st : q5d} (o : Option (Acc α)) : Cls ((b, x) :: q6o T st o) (accB o) ((b, x) :: st) := by
 cases o with
 | none => exact Cls.self _ _
 | some a =>
  refine z8u fun c hc y hy => ?_
  have h : ¬ c = a.b := by simpa [accB] using hc
  have h2 : ¬ a.b = c := fun e => h e.symm
  simpa [q6o, q5w, h, h2] using hy
theorem accB_new {α : Type} {T : TypeId} {b : Nat} {st : q5d} {o : Option (Acc α)} (h : q6u (q6o T st o) b) : b ∉ accB o ∧ q6u st b := by
 cases o with
 | none => exact ⟨by simp [accB], h⟩
 | some a => exact ⟨by simpa [accB] using h.1.2, h.2⟩
theorem xappend_box {α : Type} {row : List α → List PV} {k : Nat} (hrl : ∀ l, (row l).length = l.length * k) (hra : ∀ l m, row (l ++ m) = row l ++ row m) {T T' : TypeId} {bytes b : Nat} {R : List PV} {st : q5d} {K : PV → q5d → Prop}
  (o : Option (Acc α)) (ho : accOk row k st o) (hb : q6u (q6o T st o) b) (xs : List α) {new : List PV} {m : Nat} (hnew : row xs = new) (hm : xs.length = m) (hm0 : 0 < m) (hsz : ((q5y o).length + m) * bytes ≤ 140737488355328)
  (h : ∀ o' : Option (Acc α), accOk row k ((b, .arr T' R) :: st) o' → q5y o' = q5y o ++ xs → K (k1p o') (q6o T ((b, .arr T' R) :: st) o')) : q6p T bytes k (k1p o) new m ((b, .arr T' R) :: q6o T st o) K :=
 k7p (row' := fun _ : List Unit => []) (k' := R.length) (T' := T') hrl hra o (some ⟨[], b, 1, R⟩) ho ⟨⟨by simp, by simp, by simp, by simp⟩, hb⟩ xs hnew hm hm0 hsz h
theorem StLe.box {α : Type} {T : TypeId} {b : Nat} {x : PObj} {st : q5d} (o : Option (Acc α)) (hb : q6u st b) : StLe (q6o T st o) (q6o T ((b, x) :: st) o) := by
 cases o with
 | none => exact .fresh hb
 | some a => exact z4w (.fresh hb)
theorem accOk.unbox {α : Type} {row : List α → List PV} {k : Nat} {b : Nat} {x : PObj} {st : q5d} {o : Option (Acc α)} (h : accOk row k ((b, x) :: st) o) : accOk row k st o := by
 cases o with
 | none => trivial
 | some a => exact ⟨h.1, h.2.2⟩
theorem View.accQ {α : Type} {row : List α → List PV} {k : Nat} {T : TypeId} {a : Option (Acc α)} (h0 : row [] = []) {e e' : Env} {st st' : q5d} (ha : accOk row k st' a) (hs : StLe (q6o T st' a) st)
  (he : ∀ q ∈ e', q6g e q.1 = q.2 ∨ (q6g e q.1 = Go.Pv.accQ a ∧ q.2 = .list a.isNone (row (q5y a)) (q5y a).length)) : View ⟨e, st⟩ ⟨e', st'⟩ := by
 cases a with
 | none =>
  refine View.ple hs fun q hq => ?_
  rcases he q hq with h | ⟨h1, h2⟩
  ·exact PLe.of_eq h
  ·rw [h1, h2]
   simp only [q92, h0, List.length_nil]
   exact PLe.of_eq rfl
 | some a =>
  obtain ⟨h1, h2⟩ := ha
  refine View.frz h2 hs fun q hq => ?_
  rcases he q hq with h | ⟨h3, h4⟩
  ·exact Frz.of_eq h
  ·rw [h3, h4]; exact Frz.acc h1
theorem z47 {α : Type} {row : List α → List PV} {k : Nat} (hrl : ∀ l, (row l).length = l.length * k) (hra : ∀ l m, row (l ++ m) = row l ++ row m) {T T' : TypeId} {bytes b : Nat} {R : List PV} {st : q5d} {K : PV → q5d → Prop}
  (o : Option (Acc α)) (ho : accOk row k st o) (hb : q6u (q6o T st o) b) (xs : List α) {new : List PV} {m : Nat} (hnew : row xs = new) (hm : xs.length = m) (hm0 : 0 < m) (hsz : ((q5y o).length + m) * bytes ≤ 140737488355328)
  (h : ∀ o' : Option (Acc α), accOk row k ((b, .arr T' R) :: st) o' → q5y o' = q5y o ++ xs → K (accQ o') (q6o T ((b, .arr T' R) :: st) o')) : q6p T bytes k (accQ o) new m ((b, .arr T' R) :: q6o T st o) K := by
 cases o with
 | none =>
  have := k1b (T := T) (st := (b, .arr T' R) :: st) (K := K) hrl hra (none : Option (Acc α)) trivial xs hnew hm (by simpa using hsz) fun o' ho' hl => h o' ho' hl
  exact this
 | some a =>
  refine xappend_box (T := T) hrl hra (some a) ho hb xs hnew hm hm0 hsz fun o' ho' hl => ?_
  have := h o' ho' hl
  cases o' with
  | none =>
   have h2 := congrArg List.length hl
   simp only [q92, List.length_nil, List.length_append] at h2
   omega
  | some a' => exact this
theorem PLe.lists {ps qs : List PV} {t : Bool} {n : Nat} (h : PsLe ps qs) : PLe (.list t ps n) (.list t qs n) := fun I v hv => by
 simp only [vrep] at hv ⊢
 obtain ⟨a, cap, vs, h1, h2, h3, h4, h5, h6⟩ := hv
 have hl : ps.length = qs.length := (q5u h5).trans (q5u (h.vcells I vs h5)).symm
 refine ⟨a, cap, vs, h1, h2, h3, h4, h.vcells I vs h5, ?_⟩
 first | exact h6 | (rw [← hl]; exact h6)
theorem PsLe.append : ∀ {ps qs ps' qs' : List PV}, PsLe ps qs → PsLe ps' qs' → PsLe (ps ++ ps') (qs ++ qs')
 | [], [], _, _, _, h => h
 | _ :: _, _ :: _, _, _, h, h' => ⟨h.1, PsLe.append h.2 h'⟩
theorem j59 {α : Type} {row : List α → List PV} {k : Nat} {T : TypeId} {st : q5d} {o o2 : Option (Acc α)} (h2 : accOk row k st o2) : Cls (q6o T st o) (accB o) (q6o T st o2) := fun b hb x hx => by
 have h1 : q5w st b = some x := by
  cases o with
  | none => exact hx
  | some a =>
   have h : ¬ b = a.b := by simpa [accB] using hb
   have h3 : ¬ a.b = b := fun e => h e.symm
   simpa [q6o, q5w, h, h3] using hx
 cases o2 with
 | none => exact h1
 | some a => exact (StLe.fresh h2.2) _ _ h1
end Go.Pv
