/- Loops that build lists, which are seen as never written any more behind them. -/
import Derived.Test.YtmlmoaimjifpgaaGreatLVf
namespace Go.Pv
theorem k63 {α β : Type} {row : List α → List PV} {k : Nat} (hrl : ∀ l, (row l).length = l.length * k) (hra : ∀ l m, row (l ++ m) = row l ++ row m) {row' : List β → List PV} {k' : Nat} {T T' : TypeId} {bytes : Nat} {st : q43} {K : PV → q43 → Prop}
  (o : Option (Acc α)) (q : Option (Acc β)) (ho : accOk row k st o) (hq : accOk row' k' (accS T st o) q) (xs : List α) {new : List PV} {m : Nat} (hnew : row xs = new) (hm : xs.length = m) (hm0 : 0 < m) (hsz : ((q5m o).length + m) * bytes ≤ 140737488355328)
  (h : ∀ o' : Option (Acc α), accOk row k (accS T' st q) o' → q5m o' = q5m o ++ xs → K (q69 o') (accS T (accS T' st q) o')) : q6o T bytes k (q69 o) new m (accS T' (accS T st o) q) K := by
 cases o with
 | none =>
  refine q81 hrl xs hnew hm hm0 (by simpa using hsz) fun a' ha' hl' hb' => ?_
  exact h (some a') ⟨ha', hb'⟩ (by simpa using hl')
 | some a =>
  obtain ⟨ha, hb⟩ := ho
  have hg : q5p (accS T' (accS T st (some a)) q) a.b = some (.arr T a.R) := by
   cases q with
   | none => simp
   | some y =>
    have h1 : ¬ a.b = y.b := by
     have := hq.2
     simp only [q5r, q5s] at this
     exact this.1.1
    have h2 : ¬ y.b = a.b := fun e => h1 e.symm
    simp [q5p, h2]
  refine q8o hrl hra ha hg xs hnew hm hsz fun a' ha' hl' hb' => ?_
  have e : k1x a.b (accS T' (accS T st (some a)) q) = accS T' st q := by
   cases q with
   | none => simp [q7e hb]
   | some y =>
    have h1 : ¬ a.b = y.b := by
     have := hq.2
     simp only [q5r, q5s] at this
     exact this.1.1
    have h2 : ¬ y.b = a.b := fun e => h1 e.symm
    simp [k1x, q7e hb, h2]
  rw [e] at hb' ⊢
  exact h (some a') ⟨ha', hb'⟩ hl'
def accT {α : Type} : Option (Acc α) → PV
 | none => .list true [] 0
 | some a => .own a.b 0 a.l.length a.cap
@[simp] theorem y5i {α : Type} : accT (none : Option (Acc α)) = .list true [] 0 := rfl
@[simp] theorem y5j {α : Type} (a : Acc α) : accT (some a) = .own a.b 0 a.l.length a.cap := rfl
theorem k8l {P : Program} {g : FuncId} {ps qs : List PV} {b : Nat} {o : PObj} {st st' : q43} {p : PV} (hb : q5s st' b) (hs : StLe ((b, o) :: st') st) (ha : Frzs b o ps qs) (h : Rets P g qs st' p) {Q : PEnd → q43 → Prop} (hk : Q (.ret p) st') : xcall P g ps st Q :=
 PCalls.mono (PCalls.frz hb hs ha h) fun e s ⟨h1, h2⟩ => by subst h1; subst h2; exact hk
def k0v (l : List Int) : List PV := l.map .int
abbrev z9k (t : Bool) (l : List Int) : PV := .list t (k0v l) l.length
@[simp] theorem y20 : k0v [] = [] := rfl
theorem k55 (l : List Int) : (k0v l).length = l.length * 1 := by simp [k0v]
@[simp] theorem j6w (l : List Int) : (k0v l).length = l.length := by simp [k0v]
theorem k1h (l m : List Int) : k0v (l ++ m) = k0v l ++ k0v m := by simp [k0v]
@[simp] theorem j00 (l : List Int) (i : Nat) (h : i < l.length) : (k0v l)[i]? = some (.int l[i]) := by simp [k0v, h]
end Go.Pv
