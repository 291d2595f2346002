/- Sessions: what is right, plain. -/
import Derived.Test.YtnooplpbpfiapaaGreatDoorG36A
namespace Go.Proofs.YtnooplpbpfiapaaGreatDoor
open Go.Pv
set_option maxRecDepth 100000
theorem q6j {a b : Int} : k0s a b < 0 ↔ a < b := by unfold k0s; split <;> (try split) <;> omega
theorem cmpI_eq {a b : Int} : k0s a b = 0 ↔ a = b := by unfold k0s; split <;> (try split) <;> omega
theorem k9k {a b : Int} : 0 < k0s a b ↔ b < a := by unfold k0s; split <;> (try split) <;> omega
theorem q9e {x y : Sh} : q9k x y < 0 ↔ x.o < y.o ∨ x.o = y.o ∧ (x.c < y.c ∨ x.c = y.c ∧ x.h < y.h) := by
 unfold q9k or3 k0s
 split <;> split <;> (try split) <;> (try split) <;> (try split) <;> (try split) <;> (try split) <;> omega
theorem z3h {x y : Sh} : q9k x y = 0 ↔ x.o = y.o ∧ x.c = y.c ∧ x.h = y.h := by
 unfold q9k or3 k0s
 split <;> split <;> (try split) <;> (try split) <;> (try split) <;> (try split) <;> (try split) <;> omega
section
variable {α : Type}
theorem q7o {c : α → α → Int} (ht : ∀ x y z, c x y < 0 → c y z < 0 → c x z < 0) {l : List α} (h : q5s c l = true) : l.Pairwise fun x y => c x y < 0 := by
 rw [q7r] at h
 refine List.pairwise_iff_getElem.2 fun i j hi hj hij => ?_
 induction j with
 | zero => omega
 | succ j ih =>
  by_cases e : i = j
  ·subst e; exact h i hj
  ·exact ht _ _ _ (ih (by omega) (by omega)) (h j hj)
theorem k5x {c : α → α → Int} {l : List α} (h : l.Pairwise fun x y => c x y < 0) : q5s c l = true :=
 (q7r c l).2 fun i hi => List.pairwise_iff_getElem.1 h i (i + 1) (by omega) hi (by omega)
structure FallsS (d : α → Int) (l : List α) : Prop where
 out : ∀ a b, a < b → ∀ (h : b < l.length), d l[b] ≤ 0 → ∀ {h' : a < l.length}, d l[a] < 0
theorem FallsS.weak {d : α → Int} {l : List α} (h : FallsS d l) : Falls d l := ⟨fun a b hab hb hn ha => h.out a b hab hb (by omega)⟩
theorem z3i {c : α → α → Int} {d : α → Int} (hd : ∀ x y, c x y < 0 → d y ≤ 0 → d x < 0) {l : List α} (h : l.Pairwise fun x y => c x y < 0) : FallsS d l :=
 ⟨fun a b hab hb hn ha => hd _ _ (List.pairwise_iff_getElem.1 h a b ha hb hab) hn⟩
end
abbrev cJ (x y : Card) : Int := k0s x.j y.j
abbrev nJ (x y : Shn) : Int := k0s x.j y.j
theorem z3j (x y z : Card) (h : cJ x y < 0) (k : cJ y z < 0) : cJ x z < 0 := by
 rw [q6j] at *; omega
theorem z3k (x y z : Shn) (h : nJ x y < 0) (k : nJ y z < 0) : nJ x z < 0 := by
 rw [q6j] at *; omega
theorem q98 (x y z : Sh) (h : q9k x y < 0) (k : q9k y z < 0) : q9k x z < 0 := by
 rw [q9e] at *; omega
def q73 (s : Ses) (j : Int) : Option Card := s.sealed.find? fun x => decide (x.j = j)
def q9f (s : Ses) (j : Int) : Option Shn := s.shown.find? fun x => decide (x.j = j)
section
variable {α : Type}
theorem found {d : α → Int} {l : List α} (hf : FallsS d l) : (k7k d l = true → ∃ h : q97 d l < l.length, l.find? (fun x => decide (d x = 0)) = some l[q97 d l]) ∧ (k7k d l = false → l.find? (fun x => decide (d x = 0)) = none) := by
 have hlow : ∀ k, k < q97 d l → ∀ h : k < l.length, d l[k] < 0 := fun k hk h => by
  have := List.not_of_lt_findIdx hk
  simpa using this
 constructor
 ·intro h
  unfold k7k at h
  split at h
  ·rename_i hl
   refine ⟨hl, ?_⟩
   rw [List.find?_eq_some_iff_getElem]
   refine ⟨h, q97 d l, hl, rfl, fun j hj => ?_⟩
   have := hlow j hj (by omega)
   simp
   omega
  ·cases h
 ·intro h
  rw [List.find?_eq_none]
  intro x hx
  obtain ⟨k, hk, rfl⟩ := List.mem_iff_getElem.1 hx
  have hup : q97 d l ≤ k → q97 d l < l.length := fun h2 => by omega
  simp only [decide_eq_true_eq]
  intro e
  rcases Nat.lt_or_ge k (q97 d l) with h1 | h1
  ·have := hlow k h1 hk; omega
  ·have hl := hup h1
   unfold k7k at h
   rw [dif_pos hl] at h
   have h2 : ¬ d l[q97 d l] = 0 := of_decide_eq_false h
   have h3 : 0 ≤ d l[q97 d l] := by
    exact of_decide_eq_true (List.findIdx_getElem (p := fun x => decide (0 ≤ d x)) (xs := l) (w := hl))
   rcases Nat.lt_or_ge (q97 d l) k with h4 | h4
   ·have h5 := hf.out (q97 d l) k h4 hk (by omega) (h' := hl)
    omega
   ·have : k = q97 d l := by omega
    subst this
    exact h2 e
end
def k7u {α : Type} (d : α → Int) (sm : α → Bool) (l : List α) (x : α) : Option (List α) := if k7k d l = true then (match l[q97 d l]? with
 | some y => if sm y = true then some l else none
 | none => none) else some (ins l (q97 d l) x)
theorem z3l {α : Type} {d : α → Int} {l : List α} : q97 d l ≤ l.length := List.findIdx_le_length
theorem k3e {α : Type} {d : α → Int} {l : List α} (h : k7k d l = true) : q97 d l < l.length := by
 unfold k7k at h
 split at h
 ·rename_i h1; exact h1
 ·cases h
theorem k6p {l : List Card} (h : q5s cJ l = true) (n : Int) : FallsS (fun x => k0s x.j n) l :=
 z3i (c := cJ) (fun x y h1 h2 => by
  have a := q6j.1 h1
  have b : ¬ n < y.j := fun h => by have := k9k.2 h; omega
  exact q6j.2 (by omega)) (q7o z3j h)
theorem k4q {l : List Shn} (h : q5s nJ l = true) (n : Int) : FallsS (fun x => k0s x.j n) l :=
 z3i (c := nJ) (fun x y h1 h2 => by
  have a := q6j.1 h1
  have b : ¬ n < y.j := fun h => by have := k9k.2 h; omega
  exact q6j.2 (by omega)) (q7o z3k h)
theorem k9l {l : List Sh} (h : q5s q9k l = true) (y : Sh) : FallsS (fun x => q9k x y) l :=
 z3i (c := q9k) (fun x z h1 h2 => by
  by_cases e : q9k z y = 0
  ·have := z3h.1 e
   rw [q9e] at h1 ⊢
   omega
  ·exact q98 _ _ _ h1 (by omega)) (q7o q98 h)
theorem j3k (s : Ses) (j : Int) : q73 s j = s.sealed.find? fun x => decide (k0s x.j j = 0) := by
 unfold q73
 congr 1
 funext x
 exact decide_eq_decide.2 cmpI_eq.symm
theorem j0c (s : Ses) (j : Int) : q9f s j = s.shown.find? fun x => decide (k0s x.j j = 0) := by
 unfold q9f
 congr 1
 funext x
 exact decide_eq_decide.2 cmpI_eq.symm
def q74 (s : Ses) (x : Card) : Bool := chk x.r x.e x.j x.c && decide (x.r = s.round) && decide (x.e = s.entry) && decide (x.j ∈ s.judges) && decide ((x.c.length : Int) = s.crits)
def q6l (s : Ses) (x : Sh) : Bool := decide (x.o ∈ s.judges) && decide (x.h ∈ s.judges) && decide (x.o ≠ x.h) && wiL x.c s.crits && wiL x.v 1073741789
def q9u (y : Card) (x : Shn) : Option (List Int) := k4n y.r y.e y.j y.c y.d.1 x.k x.s.1
def q7t (s : Ses) (x : Shn) : Bool := match q73 s x.j with
 | none => false
 | some y => (q9u y x).isSome
def k0o (s : Ses) : Bool := wiL s.round 8 && wiL s.entry 4096 && wiL (s.crits - 1) 64 && wiL ((s.judges.length : Int) - 1) 24 && wiL (s.need - 1) s.judges.length && wiL s.deadline 2097152 && wiL s.time 2097152
def q67 (s : Ses) : Bool :=
 k0o s && ((q5s k0s s.judges && s.judges.all fun n => wiL n 256) && ((q5s cJ s.sealed && s.sealed.all (q74 s)) && ((q5s q9k s.keys && s.keys.all (q6l s)) && ((q5s nJ s.shown && s.shown.all (q7t s)) && (q72 s || decide ((s.keys.length : Int) + s.shown.length = 0))))))
structure Ses.Len (s : Ses) : Prop where
 judges : s.judges.length ≤ 100000
 sealed : s.sealed.length ≤ 1024
 keys : s.keys.length ≤ 1024
 shown : s.shown.length ≤ 1024
 cards : ∀ x ∈ s.sealed, x.c.length ≤ 100000
 given : ∀ x ∈ s.shown, x.k.length ≤ 100000
 crits : -9223372036854775808 ≤ s.crits ∧ s.crits < 9223372036854775808
 need : -9223372036854775808 ≤ s.need ∧ s.need < 9223372036854775808
theorem z3m {n m : Int} (h1 : -9223372036854775808 ≤ n) (h2 : n < 9223372036854775808) (hm : m ≤ 4611686018427387904) : wiL (IntKind.i64.wrap (n - 1)) m = wiL (n - 1) m := by
 by_cases e : n = -9223372036854775808
 ·subst e
  have e1 : IntKind.i64.wrap (-9223372036854775808 - 1) = 9223372036854775807 := by decide
  rw [e1]
  unfold wiL
  rw [decide_eq_false (show ¬ (9223372036854775807 : Int) < m by omega), decide_eq_false (show ¬ (0 : Int) ≤ -9223372036854775808 - 1 by decide), Bool.and_false, Bool.false_and]
 ·rw [q5c (by omega) (by omega)]
open Go.Pv
set_option maxRecDepth 100000
set_option maxHeartbeats 4000000
theorem z64 (g : FuncId) (c : Int → Int → Int) (t : Bool) (l : List Int) (hl : l.length ≤ 9223372036854775807) (st : q43) (hg : ∀ x ∈ l, ∀ y ∈ l, ∀ st, Rets P g [.int x, .int y] st (.int (c x y))) : Rets P F.q3l [q49 t l, .func (.func g) [] []] st (.bool (q5s c l)) := by
 obtain ⟨w, hw⟩ : ∃ w, w = q5s c l := ⟨_, rfl⟩
 rw [← hw]
 have kw : Hid (w = true ↔ ∀ i (h : i + 1 < l.length), c l[i] l[i + 1] < 0) := ⟨by rw [hw]; exact q7r c l⟩
 clear hw
 refine H.q3l.view q5d rfl rfl ?_
 repeat' (simp -dsimp -implicitDefEqProofs [*])
 refine q46 (fun n : Nat => [(0, q49 t l), (1, .func (.func g) [] []), (5, .int n)]) (fun _ => st) (fun n => 1 ≤ n ∧ n ≤ max 1 l.length ∧ Hid (∀ i (_ : i + 1 < n) (h : i + 1 < l.length), c l[i] l[i + 1] < 0)) (fun n => l.length - n) 1 ⟨Nat.le_refl _, by omega, ⟨fun i h => absurd h (by omega)⟩⟩ (by simp) (.refl _) ?_
 rintro n ⟨hn1, hn, hI⟩
 by_cases hnl : n < l.length
 ·obtain ⟨m, rfl⟩ : ∃ m, n = m + 1 := ⟨n - 1, by omega⟩
  have hml : m < l.length := by omega
  have hw := q47 (n := m + 1) (by omega)
  have wk : IntKind.i64.wrap (((m + 1 : Nat) : Int) - 1) = (m : Int) := by rw [q5c (by omega) (by omega)]; omega
  have hc := hg l[m] (List.getElem_mem hml) l[m + 1] (List.getElem_mem hnl)
  have s0 := q5u l m hml
  have s1 := q5u l (m + 1) hnl
  have E0 : ∀ h, (q59 l)[m]'h = .int l[m] := fun h => q7m l m h
  have E1 : ∀ h, (q59 l)[m + 1]'h = .int l[m + 1] := fun h => q7m l (m + 1) h
  have hst : Hid (c l[m] l[m + 1] < 0 → ∀ i (_ : i + 1 < m + 2) (h : i + 1 < l.length), c l[i] l[i + 1] < 0) := ⟨fun h i hi h2 => if e : i = m then by subst e; exact h else hI.out i (by omega) h2⟩
  have hno : Hid (¬ c l[m] l[m + 1] < 0 → w = false) := ⟨fun h => Bool.eq_false_iff.2 fun e => h (kw.out.1 e m hnl)⟩
  obtain ⟨x, hx⟩ : ∃ x, x = l[m] := ⟨_, rfl⟩
  obtain ⟨y, hy⟩ : ∃ y, y = l[m + 1] := ⟨_, rfl⟩
  rw [← hx, ← hy] at hc hst hno
  rw [← hx] at s0 E0
  rw [← hy] at s1 E1
  obtain ⟨v, hv⟩ : ∃ v, v = c x y := ⟨_, rfl⟩
  rw [← hv] at hc hst hno
  obtain ⟨n, hnk⟩ : ∃ n, n = m + 1 := ⟨_, rfl⟩
  have hst2 : Hid (v < 0 → ∀ i (_ : i + 1 < n + 1) (h : i + 1 < l.length), c l[i] l[i + 1] < 0) := ⟨by rw [hnk]; exact hst.out⟩
  rw [← hnk] at hw wk hnl s1 E1 ⊢
  have hn2 : n * 1 < l.length * 1 ∧ m * 1 < l.length * 1 := by omega
  clear hI hg hx hy hv hnk hst kw hn1 hn
  by_cases h : v < 0
  ·have h3 := Hid.mk (hst2.out h)
   clear hst2 hno
   repeat' (first 
    | (with_reducible refine Rets.xcall (hc _) ?_)
    | (with_reducible refine DrawLate.intro [] ?_)
    | (with_reducible refine And.intro (fun h => ?_) ?_) <;> (try (exfalso; omega))
    | (simp -dsimp -implicitDefEqProofs [*]))
   exact Next.intro (n + 1) ⟨by omega, by omega, h3⟩ (by omega) (by simp) q5l
  ·have h3 := hno.out h
   have h4 : 0 ≤ v := by omega
   subst h3
   clear hst2 hno
   repeat' (first 
    | (with_reducible refine Rets.xcall (hc _) ?_)
    | (with_reducible refine DrawLate.intro [] ?_)
    | (simp -dsimp -implicitDefEqProofs [*]))
   exact .same ⟨rfl, rfl⟩
 ·have hw : w = true := kw.out.2 fun i h => hI.out i (by omega) h
  subst hw
  have hnl2 : ¬ (n : Int) < l.length := by omega
  clear hI kw hg hn hnl
  repeat' (simp -dsimp -implicitDefEqProofs [*])
  exact .same ⟨rfl, rfl⟩
theorem j3l (g : FuncId) (cs : List PV) (p : Int → Bool) (t : Bool) (l : List Int) (hl : l.length ≤ 9223372036854775807) (st : q43) (hf : ∀ x ∈ l, Rets P g (.int x :: cs) st (.bool (p x))) : Rets P F.q04 [q49 t l, .func (.func g) [] cs] st (.int (k7j p l)) := by
 refine H.q04.view q5d rfl rfl ?_
 repeat' (simp -dsimp -implicitDefEqProofs [*])
 refine q46 (fun n : Nat => [(0, q49 t l), (1, .func (.func g) [] cs), (7, .int l.length), (8, .int n)]) (fun _ => st) (fun n => n ≤ l.length ∧ Hid (∀ j (_ : j < n) (hl : j < l.length), p l[j] = false)) (fun n => l.length - n) 0 ⟨Nat.zero_le _, ⟨fun j hj => absurd hj (by omega)⟩⟩ (by simp) (.refl _) ?_
 rintro n ⟨hn, he2⟩
 by_cases hnl : n < l.length
 ·have hw := q47 (n := n) (by omega)
  have hf1 := hf l[n] (List.getElem_mem hnl)
  have hi : Hid (p l[n] = true → k7j p l = n) := ⟨fun hp => q9c hnl (fun j hj => he2.out j hj (by omega)) hp⟩
  have hno : Hid (p l[n] = false → ∀ j (_ : j < n + 1) (hl : j < l.length), p l[j] = false) := ⟨fun hp j hj hl => if h : j = n then by subst h; exact hp else he2.out j (by omega) hl⟩
  have s0 := q5u l n hnl
  have hn2 : n * 1 < l.length * 1 := by omega
  clear hf he2
  cases hp : p l[n] with
  | true =>
   rw [hp] at hf1
   have e := hi.out hp
   rw [e]
   clear hp hi hno
   repeat' (first 
    | (with_reducible refine Rets.xcall (hf1) ?_)
    | (simp -dsimp -implicitDefEqProofs [*]))
   exact .same ⟨rfl, rfl⟩
  | false =>
   rw [hp] at hf1
   have e : Hid _ := ⟨hno.out hp⟩
   clear hp hi hno
   repeat' (first 
    | (with_reducible refine Rets.xcall (hf1) ?_)
    | (simp -dsimp -implicitDefEqProofs [*]))
   exact Next.intro (n + 1) ⟨by omega, e⟩ (by omega) (by simp) q5l
 ·have e : n = l.length := by omega
  subst e
  have hi : Hid (k7j p l = -1) := ⟨k0n fun j hj => he2.out j hj hj⟩
  rw [hi.out]
  clear hf he2
  repeat' (simp -dsimp -implicitDefEqProofs [*])
  exact .same ⟨rfl, rfl⟩
theorem j0d (g : FuncId) (cs : List PV) (p : Int → Bool) (t : Bool) (l : List Int) (hl : l.length ≤ 9223372036854775807) (st : q43) (hf : ∀ x ∈ l, Rets P g (.int x :: cs) st (.bool (p x))) : Rets P F.q0n [q49 t l, .func (.func g) [] cs] st (.bool (l.any p)) := by
 have hi := j3l g cs p t l hl st hf
 have e := k5w p l
 rw [← e]
 obtain ⟨v, hv⟩ : ∃ v, v = k7j p l := ⟨_, rfl⟩
 rw [← hv] at hi ⊢
 clear hv e hf
 refine H.q0n.pure q5d rfl rfl ?_
 repeat' (first 
  | (with_reducible refine Rets.xcall (hi) ?_)
  | (simp -dsimp -implicitDefEqProofs [*]))
theorem j0e (g : FuncId) (fs : List PV) (p0 : Nat) (U : TypeId) (w : Bool) (x : Int) (st0 st : q43) (hp0 : q6h st0 p0) (hs : st = (p0, .arr U [.func (.func g) fs []]) :: st0) (hg : ∀ st, StLe st0 st → Rets P g (fs ++ [.int x]) st (.bool w)) : Rets P F.q2t [.int x, .ptr p0 0] st (.bool (!w)) := by
 subst hs
 refine H.q2t.pure q5d rfl rfl ?_
 have hg1 := hg ((p0, .arr U [.func (.func g) fs []]) :: st0) (.fresh hp0)
 repeat' (first 
  | (with_reducible refine Rets.xcall (hg1) ?_)
  | (simp -dsimp -implicitDefEqProofs [*]))
theorem j3m (g : FuncId) (fs : List PV) (p : Int → Bool) (t : Bool) (l : List Int) (hl : l.length ≤ 9223372036854775807) (st : q43) (hg : ∀ x ∈ l, ∀ st', StLe st st' → Rets P g (fs ++ [.int x]) st' (.bool (p x))) : Rets P F.q3y [q49 t l, .func (.func g) fs []] st (.bool (l.all p)) := by
 refine H.q3y.pure q5d rfl rfl ?_
 repeat' (first 
  | (with_reducible refine Fresh.intro fun b hb => ?_) <;> (try simp -dsimp -implicitDefEqProofs [*] at hb)
  | (simp -dsimp -implicitDefEqProofs [*]))
 have hc := j0d F.q2t [.ptr b 0] (fun x => !p x) t l hl ((b, .arr T.funcintbool [.func (.func g) fs []]) :: st) (fun x hx => j0e g fs b _ (p x) x st _ hb rfl (hg x hx))
 have e : (!l.any fun x => !p x) = l.all p := by rw [List.all_eq_not_any_not]
 rw [← e]
 generalize (l.any fun x => !p x) = w at *
 clear hg e
 repeat' (first 
  | (with_reducible refine Rets.xcall (hc) ?_)
  | (simp -dsimp -implicitDefEqProofs [*]))
open Go.Pv
set_option maxRecDepth 100000
set_option maxHeartbeats 4000000
theorem z65 (g : FuncId) (c : Card → Card → Int) (t : Bool) (l : List Card) (hl : l.length ≤ 9223372036854775807) (st : q43) (hg : ∀ x ∈ l, ∀ y ∈ l, ∀ st, Rets P g [x.pv, y.pv] st (.int (c x y))) : Rets P F.q18 [Card.lst t l, .func (.func g) [] []] st (.bool (q5s c l)) := by
 obtain ⟨w, hw⟩ : ∃ w, w = q5s c l := ⟨_, rfl⟩
 rw [← hw]
 have kw : Hid (w = true ↔ ∀ i (h : i + 1 < l.length), c l[i] l[i + 1] < 0) := ⟨by rw [hw]; exact q7r c l⟩
 clear hw
 refine H.q18.view q5d rfl rfl ?_
 repeat' (simp -dsimp -implicitDefEqProofs [*])
 refine q46 (fun n : Nat => [(0, Card.lst t l), (1, .func (.func g) [] []), (5, .int n)]) (fun _ => st) (fun n => 1 ≤ n ∧ n ≤ max 1 l.length ∧ Hid (∀ i (_ : i + 1 < n) (h : i + 1 < l.length), c l[i] l[i + 1] < 0)) (fun n => l.length - n) 1 ⟨Nat.le_refl _, by omega, ⟨fun i h => absurd h (by omega)⟩⟩ (by simp) (.refl _) ?_
 rintro n ⟨hn1, hn, hI⟩
 by_cases hnl : n < l.length
 ·obtain ⟨m, rfl⟩ : ∃ m, n = m + 1 := ⟨n - 1, by omega⟩
  have hml : m < l.length := by omega
  have hw := q47 (n := m + 1) (by omega)
  have wk : IntKind.i64.wrap (((m + 1 : Nat) : Int) - 1) = (m : Int) := by rw [q5c (by omega) (by omega)]; omega
  have hc := hg l[m] (List.getElem_mem hml) l[m + 1] (List.getElem_mem hnl)
  have s0 := Card.row_sub l m hml
  have s1 := Card.row_sub l (m + 1) hnl
  have hst : Hid (c l[m] l[m + 1] < 0 → ∀ i (_ : i + 1 < m + 2) (h : i + 1 < l.length), c l[i] l[i + 1] < 0) := ⟨fun h i hi h2 => if e : i = m then by subst e; exact h else hI.out i (by omega) h2⟩
  have hno : Hid (¬ c l[m] l[m + 1] < 0 → w = false) := ⟨fun h => Bool.eq_false_iff.2 fun e => h (kw.out.1 e m hnl)⟩
  obtain ⟨x, hx⟩ : ∃ x, x = l[m] := ⟨_, rfl⟩
  obtain ⟨y, hy⟩ : ∃ y, y = l[m + 1] := ⟨_, rfl⟩
  rw [← hx, ← hy] at hc hst hno
  rw [← hx] at s0
  rw [← hy] at s1
  obtain ⟨v, hv⟩ : ∃ v, v = c x y := ⟨_, rfl⟩
  rw [← hv] at hc hst hno
  obtain ⟨n, hnk⟩ : ∃ n, n = m + 1 := ⟨_, rfl⟩
  have hst2 : Hid (v < 0 → ∀ i (_ : i + 1 < n + 1) (h : i + 1 < l.length), c l[i] l[i + 1] < 0) := ⟨by rw [hnk]; exact hst.out⟩
  rw [← hnk] at hw wk hnl s1 ⊢
  have hn2 : n * 36 < l.length * 36 ∧ m * 36 < l.length * 36 := by omega
  clear hI hg hx hy hv hnk hst kw hn1 hn
  by_cases h : v < 0
  ·have h3 := Hid.mk (hst2.out h)
   clear hst2 hno
   repeat' (first 
    | (with_reducible refine Rets.xcall (hc _) ?_)
    | (with_reducible refine DrawLate.intro [] ?_)
    | (with_reducible refine And.intro (fun h => ?_) ?_) <;> (try (exfalso; omega))
    | (simp -dsimp -implicitDefEqProofs [*]))
   exact Next.intro (n + 1) ⟨by omega, by omega, h3⟩ (by omega) (by simp) q5l
  ·have h3 := hno.out h
   have h4 : 0 ≤ v := by omega
   subst h3
   clear hst2 hno
   repeat' (first 
    | (with_reducible refine Rets.xcall (hc _) ?_)
    | (with_reducible refine DrawLate.intro [] ?_)
    | (simp -dsimp -implicitDefEqProofs [*]))
   exact .same ⟨rfl, rfl⟩
 ·have hw : w = true := kw.out.2 fun i h => hI.out i (by omega) h
  subst hw
  have hnl2 : ¬ (n : Int) < l.length := by omega
  clear hI kw hg hn hnl
  repeat' (simp -dsimp -implicitDefEqProofs [*])
  exact .same ⟨rfl, rfl⟩
theorem j3n (g : FuncId) (cs : List PV) (p : Card → Bool) (t : Bool) (l : List Card) (hl : l.length ≤ 9223372036854775807) (st : q43) (hf : ∀ x ∈ l, Rets P g (x.pv :: cs) st (.bool (p x))) : Rets P F.q0v [Card.lst t l, .func (.func g) [] cs] st (.int (k7j p l)) := by
 refine H.q0v.view q5d rfl rfl ?_
 repeat' (simp -dsimp -implicitDefEqProofs [*])
 refine q46 (fun n : Nat => [(0, Card.lst t l), (1, .func (.func g) [] cs), (7, .int l.length), (8, .int n)]) (fun _ => st) (fun n => n ≤ l.length ∧ Hid (∀ j (_ : j < n) (hl : j < l.length), p l[j] = false)) (fun n => l.length - n) 0 ⟨Nat.zero_le _, ⟨fun j hj => absurd hj (by omega)⟩⟩ (by simp) (.refl _) ?_
 rintro n ⟨hn, he2⟩
 by_cases hnl : n < l.length
 ·have hw := q47 (n := n) (by omega)
  have hf1 := hf l[n] (List.getElem_mem hnl)
  have hi : Hid (p l[n] = true → k7j p l = n) := ⟨fun hp => q9c hnl (fun j hj => he2.out j hj (by omega)) hp⟩
  have hno : Hid (p l[n] = false → ∀ j (_ : j < n + 1) (hl : j < l.length), p l[j] = false) := ⟨fun hp j hj hl => if h : j = n then by subst h; exact hp else he2.out j (by omega) hl⟩
  have s0 := Card.row_sub l n hnl
  have hn2 : n * 36 < l.length * 36 := by omega
  clear hf he2
  cases hp : p l[n] with
  | true =>
   rw [hp] at hf1
   have e := hi.out hp
   rw [e]
   clear hp hi hno
   repeat' (first 
    | (with_reducible refine Rets.xcall (hf1) ?_)
    | (simp -dsimp -implicitDefEqProofs [*]))
   exact .same ⟨rfl, rfl⟩
  | false =>
   rw [hp] at hf1
   have e : Hid _ := ⟨hno.out hp⟩
   clear hp hi hno
   repeat' (first 
    | (with_reducible refine Rets.xcall (hf1) ?_)
    | (simp -dsimp -implicitDefEqProofs [*]))
   exact Next.intro (n + 1) ⟨by omega, e⟩ (by omega) (by simp) q5l
 ·have e : n = l.length := by omega
  subst e
  have hi : Hid (k7j p l = -1) := ⟨k0n fun j hj => he2.out j hj hj⟩
  rw [hi.out]
  clear hf he2
  repeat' (simp -dsimp -implicitDefEqProofs [*])
  exact .same ⟨rfl, rfl⟩
theorem j0f (g : FuncId) (cs : List PV) (p : Card → Bool) (t : Bool) (l : List Card) (hl : l.length ≤ 9223372036854775807) (st : q43) (hf : ∀ x ∈ l, Rets P g (x.pv :: cs) st (.bool (p x))) : Rets P F.q0p [Card.lst t l, .func (.func g) [] cs] st (.bool (l.any p)) := by
 have hi := j3n g cs p t l hl st hf
 have e := k5w p l
 rw [← e]
 obtain ⟨v, hv⟩ : ∃ v, v = k7j p l := ⟨_, rfl⟩
 rw [← hv] at hi ⊢
 clear hv e hf
 refine H.q0p.pure q5d rfl rfl ?_
 repeat' (first 
  | (with_reducible refine Rets.xcall (hi) ?_)
  | (simp -dsimp -implicitDefEqProofs [*]))
theorem j0g (g : FuncId) (fs : List PV) (p0 : Nat) (U : TypeId) (w : Bool) (x : Card) (st0 st : q43) (hp0 : q6h st0 p0) (hs : st = (p0, .arr U [.func (.func g) fs []]) :: st0) (hg : ∀ st, StLe st0 st → Rets P g (fs ++ [x.pv]) st (.bool w)) : Rets P F.q1j [x.pv, .ptr p0 0] st (.bool (!w)) := by
 subst hs
 refine H.q1j.pure q5d rfl rfl ?_
 repeat' (first 
  | (with_reducible refine Fresh.intro fun b hb => ?_) <;> (try simp -dsimp -implicitDefEqProofs [*] at hb)
  | (simp -dsimp -implicitDefEqProofs [*]))
 have hg1 := hg ((b, .arr T.apiSealed x.enc) :: (p0, .arr U [.func (.func g) fs []]) :: st0) (.trans (.fresh hp0) (.fresh (by simp [*])))
 repeat' (first 
  | (with_reducible refine Rets.xcall (hg1) ?_)
  | (simp -dsimp -implicitDefEqProofs [*]))
theorem j3o (g : FuncId) (fs : List PV) (p : Card → Bool) (t : Bool) (l : List Card) (hl : l.length ≤ 9223372036854775807) (st : q43) (hg : ∀ x ∈ l, ∀ st', StLe st st' → Rets P g (fs ++ [x.pv]) st' (.bool (p x))) : Rets P F.q2i [Card.lst t l, .func (.func g) fs []] st (.bool (l.all p)) := by
 refine H.q2i.pure q5d rfl rfl ?_
 repeat' (first 
  | (with_reducible refine Fresh.intro fun b hb => ?_) <;> (try simp -dsimp -implicitDefEqProofs [*] at hb)
  | (simp -dsimp -implicitDefEqProofs [*]))
 have hc := j0f F.q1j [.ptr b 0] (fun x => !p x) t l hl ((b, .arr T.q4z [.func (.func g) fs []]) :: st) (fun x hx => j0g g fs b _ (p x) x st _ hb rfl (hg x hx))
 have e : (!l.any fun x => !p x) = l.all p := by rw [List.all_eq_not_any_not]
 rw [← e]
 generalize (l.any fun x => !p x) = w at *
 clear hg e
 repeat' (first 
  | (with_reducible refine Rets.xcall (hc) ?_)
  | (simp -dsimp -implicitDefEqProofs [*]))
open Go.Pv
set_option maxRecDepth 100000
set_option maxHeartbeats 4000000
theorem z66 (g : FuncId) (c : Sh → Sh → Int) (t : Bool) (l : List Sh) (hl : l.length ≤ 9223372036854775807) (st : q43) (hg : ∀ x ∈ l, ∀ y ∈ l, ∀ st, Rets P g [x.pv, y.pv] st (.int (c x y))) : Rets P F.q12 [Sh.lst t l, .func (.func g) [] []] st (.bool (q5s c l)) := by
 obtain ⟨w, hw⟩ : ∃ w, w = q5s c l := ⟨_, rfl⟩
 rw [← hw]
 have kw : Hid (w = true ↔ ∀ i (h : i + 1 < l.length), c l[i] l[i + 1] < 0) := ⟨by rw [hw]; exact q7r c l⟩
 clear hw
 refine H.q12.view q5d rfl rfl ?_
 repeat' (simp -dsimp -implicitDefEqProofs [*])
 refine q46 (fun n : Nat => [(0, Sh.lst t l), (1, .func (.func g) [] []), (5, .int n)]) (fun _ => st) (fun n => 1 ≤ n ∧ n ≤ max 1 l.length ∧ Hid (∀ i (_ : i + 1 < n) (h : i + 1 < l.length), c l[i] l[i + 1] < 0)) (fun n => l.length - n) 1 ⟨Nat.le_refl _, by omega, ⟨fun i h => absurd h (by omega)⟩⟩ (by simp) (.refl _) ?_
 rintro n ⟨hn1, hn, hI⟩
 by_cases hnl : n < l.length
 ·obtain ⟨m, rfl⟩ : ∃ m, n = m + 1 := ⟨n - 1, by omega⟩
  have hml : m < l.length := by omega
  have hw := q47 (n := m + 1) (by omega)
  have wk : IntKind.i64.wrap (((m + 1 : Nat) : Int) - 1) = (m : Int) := by rw [q5c (by omega) (by omega)]; omega
  have hc := hg l[m] (List.getElem_mem hml) l[m + 1] (List.getElem_mem hnl)
  have s0 := Sh.row_sub l m hml
  have s1 := Sh.row_sub l (m + 1) hnl
  have hst : Hid (c l[m] l[m + 1] < 0 → ∀ i (_ : i + 1 < m + 2) (h : i + 1 < l.length), c l[i] l[i + 1] < 0) := ⟨fun h i hi h2 => if e : i = m then by subst e; exact h else hI.out i (by omega) h2⟩
  have hno : Hid (¬ c l[m] l[m + 1] < 0 → w = false) := ⟨fun h => Bool.eq_false_iff.2 fun e => h (kw.out.1 e m hnl)⟩
  obtain ⟨x, hx⟩ : ∃ x, x = l[m] := ⟨_, rfl⟩
  obtain ⟨y, hy⟩ : ∃ y, y = l[m + 1] := ⟨_, rfl⟩
  rw [← hx, ← hy] at hc hst hno
  rw [← hx] at s0
  rw [← hy] at s1
  obtain ⟨v, hv⟩ : ∃ v, v = c x y := ⟨_, rfl⟩
  rw [← hv] at hc hst hno
  obtain ⟨n, hnk⟩ : ∃ n, n = m + 1 := ⟨_, rfl⟩
  have hst2 : Hid (v < 0 → ∀ i (_ : i + 1 < n + 1) (h : i + 1 < l.length), c l[i] l[i + 1] < 0) := ⟨by rw [hnk]; exact hst.out⟩
  rw [← hnk] at hw wk hnl s1 ⊢
  have hn2 : n * 4 < l.length * 4 ∧ m * 4 < l.length * 4 := by omega
  clear hI hg hx hy hv hnk hst kw hn1 hn
  by_cases h : v < 0
  ·have h3 := Hid.mk (hst2.out h)
   clear hst2 hno
   repeat' (first 
    | (with_reducible refine Rets.xcall (hc _) ?_)
    | (with_reducible refine DrawLate.intro [] ?_)
    | (with_reducible refine And.intro (fun h => ?_) ?_) <;> (try (exfalso; omega))
    | (simp -dsimp -implicitDefEqProofs [*]))
   exact Next.intro (n + 1) ⟨by omega, by omega, h3⟩ (by omega) (by simp) q5l
  ·have h3 := hno.out h
   have h4 : 0 ≤ v := by omega
   subst h3
   clear hst2 hno
   repeat' (first 
    | (with_reducible refine Rets.xcall (hc _) ?_)
    | (with_reducible refine DrawLate.intro [] ?_)
    | (simp -dsimp -implicitDefEqProofs [*]))
   exact .same ⟨rfl, rfl⟩
 ·have hw : w = true := kw.out.2 fun i h => hI.out i (by omega) h
  subst hw
  have hnl2 : ¬ (n : Int) < l.length := by omega
  clear hI kw hg hn hnl
  repeat' (simp -dsimp -implicitDefEqProofs [*])
  exact .same ⟨rfl, rfl⟩
theorem j3p (g : FuncId) (cs : List PV) (p : Sh → Bool) (t : Bool) (l : List Sh) (hl : l.length ≤ 9223372036854775807) (st : q43) (hf : ∀ x ∈ l, Rets P g (x.pv :: cs) st (.bool (p x))) : Rets P F.q0m [Sh.lst t l, .func (.func g) [] cs] st (.int (k7j p l)) := by
 refine H.q0m.view q5d rfl rfl ?_
 repeat' (simp -dsimp -implicitDefEqProofs [*])
 refine q46 (fun n : Nat => [(0, Sh.lst t l), (1, .func (.func g) [] cs), (7, .int l.length), (8, .int n)]) (fun _ => st) (fun n => n ≤ l.length ∧ Hid (∀ j (_ : j < n) (hl : j < l.length), p l[j] = false)) (fun n => l.length - n) 0 ⟨Nat.zero_le _, ⟨fun j hj => absurd hj (by omega)⟩⟩ (by simp) (.refl _) ?_
 rintro n ⟨hn, he2⟩
 by_cases hnl : n < l.length
 ·have hw := q47 (n := n) (by omega)
  have hf1 := hf l[n] (List.getElem_mem hnl)
  have hi : Hid (p l[n] = true → k7j p l = n) := ⟨fun hp => q9c hnl (fun j hj => he2.out j hj (by omega)) hp⟩
  have hno : Hid (p l[n] = false → ∀ j (_ : j < n + 1) (hl : j < l.length), p l[j] = false) := ⟨fun hp j hj hl => if h : j = n then by subst h; exact hp else he2.out j (by omega) hl⟩
  have s0 := Sh.row_sub l n hnl
  have hn2 : n * 4 < l.length * 4 := by omega
  clear hf he2
  cases hp : p l[n] with
  | true =>
   rw [hp] at hf1
   have e := hi.out hp
   rw [e]
   clear hp hi hno
   repeat' (first 
    | (with_reducible refine Rets.xcall (hf1) ?_)
    | (simp -dsimp -implicitDefEqProofs [*]))
   exact .same ⟨rfl, rfl⟩
  | false =>
   rw [hp] at hf1
   have e : Hid _ := ⟨hno.out hp⟩
   clear hp hi hno
   repeat' (first 
    | (with_reducible refine Rets.xcall (hf1) ?_)
    | (simp -dsimp -implicitDefEqProofs [*]))
   exact Next.intro (n + 1) ⟨by omega, e⟩ (by omega) (by simp) q5l
 ·have e : n = l.length := by omega
  subst e
  have hi : Hid (k7j p l = -1) := ⟨k0n fun j hj => he2.out j hj hj⟩
  rw [hi.out]
  clear hf he2
  repeat' (simp -dsimp -implicitDefEqProofs [*])
  exact .same ⟨rfl, rfl⟩
theorem j0h (g : FuncId) (cs : List PV) (p : Sh → Bool) (t : Bool) (l : List Sh) (hl : l.length ≤ 9223372036854775807) (st : q43) (hf : ∀ x ∈ l, Rets P g (x.pv :: cs) st (.bool (p x))) : Rets P F.q0i [Sh.lst t l, .func (.func g) [] cs] st (.bool (l.any p)) := by
 have hi := j3p g cs p t l hl st hf
 have e := k5w p l
 rw [← e]
 obtain ⟨v, hv⟩ : ∃ v, v = k7j p l := ⟨_, rfl⟩
 rw [← hv] at hi ⊢
 clear hv e hf
 refine H.q0i.pure q5d rfl rfl ?_
 repeat' (first 
  | (with_reducible refine Rets.xcall (hi) ?_)
  | (simp -dsimp -implicitDefEqProofs [*]))
theorem j0i (g : FuncId) (fs : List PV) (p0 : Nat) (U : TypeId) (w : Bool) (x : Sh) (st0 st : q43) (hp0 : q6h st0 p0) (hs : st = (p0, .arr U [.func (.func g) fs []]) :: st0) (hg : ∀ st, StLe st0 st → Rets P g (fs ++ [x.pv]) st (.bool w)) : Rets P F.q1c [x.pv, .ptr p0 0] st (.bool (!w)) := by
 subst hs
 refine H.q1c.pure q5d rfl rfl ?_
 repeat' (first 
  | (with_reducible refine Fresh.intro fun b hb => ?_) <;> (try simp -dsimp -implicitDefEqProofs [*] at hb)
  | (simp -dsimp -implicitDefEqProofs [*]))
 have hg1 := hg ((b, .arr T.apiKeyShare x.enc) :: (p0, .arr U [.func (.func g) fs []]) :: st0) (.trans (.fresh hp0) (.fresh (by simp [*])))
 repeat' (first 
  | (with_reducible refine Rets.xcall (hg1) ?_)
  | (simp -dsimp -implicitDefEqProofs [*]))
theorem j3q (g : FuncId) (fs : List PV) (p : Sh → Bool) (t : Bool) (l : List Sh) (hl : l.length ≤ 9223372036854775807) (st : q43) (hg : ∀ x ∈ l, ∀ st', StLe st st' → Rets P g (fs ++ [x.pv]) st' (.bool (p x))) : Rets P F.q19 [Sh.lst t l, .func (.func g) fs []] st (.bool (l.all p)) := by
 refine H.q19.pure q5d rfl rfl ?_
 repeat' (first 
  | (with_reducible refine Fresh.intro fun b hb => ?_) <;> (try simp -dsimp -implicitDefEqProofs [*] at hb)
  | (simp -dsimp -implicitDefEqProofs [*]))
 have hc := j0h F.q1c [.ptr b 0] (fun x => !p x) t l hl ((b, .arr T.q40 [.func (.func g) fs []]) :: st) (fun x hx => j0i g fs b _ (p x) x st _ hb rfl (hg x hx))
 have e : (!l.any fun x => !p x) = l.all p := by rw [List.all_eq_not_any_not]
 rw [← e]
 generalize (l.any fun x => !p x) = w at *
 clear hg e
 repeat' (first 
  | (with_reducible refine Rets.xcall (hc) ?_)
  | (simp -dsimp -implicitDefEqProofs [*]))
end Go.Proofs.YtnooplpbpfiapaaGreatDoor
