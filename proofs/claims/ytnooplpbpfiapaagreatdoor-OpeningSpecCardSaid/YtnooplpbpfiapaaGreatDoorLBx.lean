/- A box beside an accumulator. -/
import Derived.Test.YtnooplpbpfiapaaGreatDoorLFr
import Derived.Test.YtnooplpbpfiapaaGreatDoorLVf
import Derived.Test.YtnooplpbpfiapaaGreatDoorLNt
namespace Go.Pv
def accB {α : Type} : Option (Acc α) → List Nat
 | none => []
 | some a => [a.b]
theorem Cls_box {α : Type} {T : TypeId} {b : Nat} {x : PObj} {st : q5d} (o : Option (Acc α)) : Cls ((b, x) :: q67 T st o) (accB o) ((b, x) :: st) := by
 cases o with
 | none => exact Cls.self _ _
 | some a =>
  refine z8p fun c hc y hy => ?_
  have h : ¬ c = a.b := by simpa [accB] using hc
  have h2 : ¬ a.b = c := fun e => h e.symm
  simpa [q67, q5x, h, h2] using hy
theorem accB_new {α : Type} {T : TypeId} {b : Nat} {st : q5d} {o : Option (Acc α)} (h : q6w (q67 T st o) b) : b ∉ accB o ∧ q6w st b := by
 cases o with
 | none => exact ⟨by simp [accB], h⟩
 | some a => exact ⟨by simpa [accB] using h.1.2, h.2⟩
theorem xappend_box {α : Type} {row : List α → List PV} {k : Nat} (hrl : ∀ l, (row l).length = l.length * k) (hra : ∀ l m, row (l ++ m) = row l ++ row m) {T T' : TypeId} {bytes b : Nat} {R : List PV} {st : q5d} {K : PV → q5d → Prop}
  (o : Option (Acc α)) (ho : accOk row k st o) (hb : q6w (q67 T st o) b) (xs : List α) {new : List PV} {m : Nat} (hnew : row xs = new) (hm : xs.length = m) (hm0 : 0 < m) (hsz : ((q59 o).length + m) * bytes ≤ 140737488355328)
  (h : ∀ o' : Option (Acc α), accOk row k ((b, .arr T' R) :: st) o' → q59 o' = q59 o ++ xs → K (k1k o') (q67 T ((b, .arr T' R) :: st) o')) : q6u T bytes k (k1k o) new m ((b, .arr T' R) :: q67 T st o) K :=
 k72 (row' := fun _ : List Unit => []) (k' := R.length) (T' := T') hrl hra o (some ⟨[], b, 1, R⟩) ho ⟨⟨by simp, by simp, by simp, by simp⟩, hb⟩ xs hnew hm hm0 hsz h
theorem StLe.box {α : Type} {T : TypeId} {b : Nat} {x : PObj} {st : q5d} (o : Option (Acc α)) (hb : q6w st b) : StLe (q67 T st o) (q67 T ((b, x) :: st) o) := by
 cases o with
 | none => exact .fresh hb
 | some a => exact z43 (.fresh hb)
theorem accOk.unbox {α : Type} {row : List α → List PV} {k : Nat} {b : Nat} {x : PObj} {st : q5d} {o : Option (Acc α)} (h : accOk row k ((b, x) :: st) o) : accOk row k st o := by
 cases o with
 | none => trivial
 | some a => exact ⟨h.1, h.2.2⟩
theorem PLe.lists {ps qs : List PV} {t : Bool} {n : Nat} (h : PsLe ps qs) : PLe (.list t ps n) (.list t qs n) := fun I v hv => by
 simp only [vrep] at hv ⊢
 obtain ⟨a, cap, vs, h1, h2, h3, h4, h5, h6⟩ := hv
 have hl : ps.length = qs.length := (q5u h5).trans (q5u (h.vcells I vs h5)).symm
 refine ⟨a, cap, vs, h1, h2, h3, h4, h.vcells I vs h5, ?_⟩
 first | exact h6 | (rw [← hl]; exact h6)
theorem PsLe.append : ∀ {ps qs ps' qs' : List PV}, PsLe ps qs → PsLe ps' qs' → PsLe (ps ++ ps') (qs ++ qs')
 | [], [], _, _, _, h => h
 | _ :: _, _ :: _, _, _, h, h' => ⟨h.1, PsLe.append h.2 h'⟩
end Go.Pv
