/- Comparing by one key after the other: plain facts. -/
import Derived.Test.YtgjgcflgjpigpaaLNt
import Derived.Test.YtgjgcflgjpigpaaLVf
import Derived.Test.YtgjgcflgjpigpaaLFr
namespace Go.Pv
end Go.Pv
/- A block is frozen, also in the cells of other blocks. -/
namespace Go.Pv
/-- An object whose cells see the block frozen. -/
inductive FrzO (b : Nat) (o : PObj) : PObj → PObj → Prop
  | refl (x : PObj) : FrzO b o x x
  | arr (T : TypeId) {cs ds : List PV} (h : Frzs b o cs ds) : FrzO b o (.arr T cs) (.arr T ds)
inductive FrzSt (b : Nat) (o : PObj) : Store → Store → Prop
  | nil : FrzSt b o [] []
  | cons {c : Nat} {x y : PObj} {st st' : Store} (h : FrzO b o x y) (t : FrzSt b o st st') : FrzSt b o ((c, x) :: st) ((c, y) :: st')
theorem FrzSt.refl {b : Nat} {o : PObj} : ∀ st : Store, FrzSt b o st st
  | [] => .nil
  | (_, x) :: st => .cons (.refl x) (FrzSt.refl st)
theorem FrzSt.get {b : Nat} {o : PObj} {st st' : Store} (h : FrzSt b o st st') : ∀ {c : Nat} {y : PObj}, sget st' c = some y → ∃ x, sget st c = some x ∧ FrzO b o x y := by
  induction h with
  | nil => intro c y hc; cases hc
  | cons h _ ih =>
    intro c y hc
    simp only [sget] at hc ⊢
    split at hc
    · rename_i e
      cases hc
      exact ⟨_, by rw [if_pos e], h⟩
    · rename_i e
      rw [if_neg e]
      exact ih hc
end Go.Pv
/- Stores side by side. -/
namespace Go.Pv
def Apart (G F : Store) : Prop := ∀ q ∈ G, snew F q.1
theorem Apart.get {G F : Store} {c : Nat} {o : PObj} (h : Apart G F) (hc : sget F c = some o) : sget (G ++ F) c = some o := by
  induction G with
  | nil => exact hc
  | cons q G ih =>
    obtain ⟨d, x⟩ := q
    have hd := snew_ne (h (d, x) (by simp)) hc
    show (if d = c then some x else sget (G ++ F) c) = some o
    rw [if_neg hd.1]
    exact ih fun q hq => h q (by simp [hq])
theorem Apart.set {G F : Store} {c : Nat} {o o' : PObj} (h : Apart G F) (hc : sget F c = some o) : sset (G ++ F) c o' = G ++ sset F c o' := by
  induction G with
  | nil => rfl
  | cons q G ih =>
    obtain ⟨d, x⟩ := q
    have hd := snew_ne (h (d, x) (by simp)) hc
    show (if d = c then (c, o') :: (G ++ F) else (d, x) :: sset (G ++ F) c o') = (d, x) :: (G ++ sset F c o')
    rw [if_neg hd.1, ih fun q hq => h q (by simp [hq])]
theorem snew_append {G F : Store} {c : Nat} : snew (G ++ F) c ↔ snew G c ∧ snew F c := by
  induction G with
  | nil => simp [snew]
  | cons q G ih =>
    obtain ⟨d, x⟩ := q
    simp only [List.cons_append, snew, ih, and_assoc]
theorem app_le2 {G F F' : Store} (h : StLe F F') : StLe (G ++ F) (G ++ F') := fun c x hc => by
  induction G with
  | nil => exact h c x hc
  | cons q G ih =>
    obtain ⟨d, y⟩ := q
    show (if d = c then some y else sget (G ++ F') c) = some x
    have h2 : (if d = c then some y else sget (G ++ F) c) = some x := hc
    by_cases hdc : d = c
    · rw [if_pos hdc] at h2 ⊢; exact h2
    · rw [if_neg hdc] at h2 ⊢; exact ih h2
end Go.Pv
/- A box beside an accumulator. -/
namespace Go.Pv
def accB {α : Type} : Option (Acc α) → List Nat
  | none => []
  | some a => [a.b]
theorem accB_new {α : Type} {T : TypeId} {b : Nat} {st : Store} {o : Option (Acc α)} (h : snew (accS T st o) b) : b ∉ accB o ∧ snew st b := by
  cases o with
  | none => exact ⟨by simp [accB], h⟩
  | some a => exact ⟨by simpa [accB] using h.1.2, h.2⟩
theorem xappend_box {α : Type} {row : List α → List PV} {k : Nat} (hrl : ∀ l, (row l).length = l.length * k) (hra : ∀ l m, row (l ++ m) = row l ++ row m) {T T' : TypeId} {bytes b : Nat} {R : List PV} {st : Store} {K : PV → Store → Prop}
    (o : Option (Acc α)) (ho : accOk row k st o) (hb : snew (accS T st o) b) (xs : List α) {new : List PV} {m : Nat} (hnew : row xs = new) (hm : xs.length = m) (hm0 : 0 < m) (hsz : ((accL o).length + m) * bytes ≤ 140737488355328)
    (h : ∀ o' : Option (Acc α), accOk row k ((b, .arr T' R) :: st) o' → accL o' = accL o ++ xs → K (accP o') (accS T ((b, .arr T' R) :: st) o')) : xappend T bytes k (accP o) new m ((b, .arr T' R) :: accS T st o) K :=
  xappend_accB (row' := fun _ : List Unit => []) (k' := R.length) (T' := T') hrl hra o (some ⟨[], b, 1, R⟩) ho ⟨⟨by simp, by simp, by simp, by simp⟩, hb⟩ xs hnew hm hm0 hsz h
theorem StLe.box {α : Type} {T : TypeId} {b : Nat} {x : PObj} {st : Store} (o : Option (Acc α)) (hb : snew st b) : StLe (accS T st o) (accS T ((b, x) :: st) o) := by
  cases o with
  | none => exact .fresh hb
  | some a => exact StLe_same (.fresh hb)
theorem accOk.unbox {α : Type} {row : List α → List PV} {k : Nat} {b : Nat} {x : PObj} {st : Store} {o : Option (Acc α)} (h : accOk row k ((b, x) :: st) o) : accOk row k st o := by
  cases o with
  | none => trivial
  | some a => exact ⟨h.1, h.2.2⟩
end Go.Pv
