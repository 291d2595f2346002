/- Sessions: what is right, plain. -/
import Derived.Test.YtnooplpbpfiapaaGreatDoorG36A
namespace Go.Proofs.YtnooplpbpfiapaaGreatDoor
open Go.Pv
set_option maxRecDepth 100000
theorem q66 {a b : Int} : k1f a b < 0 ↔ a < b := by unfold k1f; split <;> (try split) <;> omega
theorem cmpI_eq {a b : Int} : k1f a b = 0 ↔ a = b := by unfold k1f; split <;> (try split) <;> omega
theorem z0r {a b : Int} : 0 < k1f a b ↔ b < a := by unfold k1f; split <;> (try split) <;> omega
theorem q9y {x y : Sh} : q95 x y < 0 ↔ x.o < y.o ∨ x.o = y.o ∧ (x.c < y.c ∨ x.c = y.c ∧ x.h < y.h) := by
 unfold q95 or3 k1f
 split <;> split <;> (try split) <;> (try split) <;> (try split) <;> (try split) <;> (try split) <;> omega
theorem z8l {x y : Sh} : q95 x y = 0 ↔ x.o = y.o ∧ x.c = y.c ∧ x.h = y.h := by
 unfold q95 or3 k1f
 split <;> split <;> (try split) <;> (try split) <;> (try split) <;> (try split) <;> (try split) <;> omega
section
variable {α : Type}
theorem q85 {c : α → α → Int} (ht : ∀ x y z, c x y < 0 → c y z < 0 → c x z < 0) {l : List α} (h : q54 c l = true) : l.Pairwise fun x y => c x y < 0 := by
 rw [q8a] at h
 refine List.pairwise_iff_getElem.2 fun i j hi hj hij => ?_
 induction j with
 | zero => omega
 | succ j ih =>
  by_cases e : i = j
  ·subst e; exact h i hj
  ·exact ht _ _ _ (ih (by omega) (by omega)) (h j hj)
theorem k6u {c : α → α → Int} {l : List α} (h : l.Pairwise fun x y => c x y < 0) : q54 c l = true :=
 (q8a c l).2 fun i hi => List.pairwise_iff_getElem.1 h i (i + 1) (by omega) hi (by omega)
structure FallsS (d : α → Int) (l : List α) : Prop where
 out : ∀ a b, a < b → ∀ (h : b < l.length), d l[b] ≤ 0 → ∀ {h' : a < l.length}, d l[a] < 0
theorem FallsS.weak {d : α → Int} {l : List α} (h : FallsS d l) : Falls d l := ⟨fun a b hab hb hn ha => h.out a b hab hb (by omega)⟩
theorem z4x {c : α → α → Int} {d : α → Int} (hd : ∀ x y, c x y < 0 → d y ≤ 0 → d x < 0) {l : List α} (h : l.Pairwise fun x y => c x y < 0) : FallsS d l :=
 ⟨fun a b hab hb hn ha => hd _ _ (List.pairwise_iff_getElem.1 h a b ha hb hab) hn⟩
end
abbrev cJ (x y : Card) : Int := k1f x.j y.j
abbrev nJ (x y : Shn) : Int := k1f x.j y.j
theorem z4y (x y z : Card) (h : cJ x y < 0) (k : cJ y z < 0) : cJ x z < 0 := by
 rw [q66] at *; omega
theorem z4z (x y z : Shn) (h : nJ x y < 0) (k : nJ y z < 0) : nJ x z < 0 := by
 rw [q66] at *; omega
theorem k2g (x y z : Sh) (h : q95 x y < 0) (k : q95 y z < 0) : q95 x z < 0 := by
 rw [q9y] at *; omega
def q8e (s : Ses) (j : Int) : Option Card := s.sealed.find? fun x => decide (x.j = j)
def k0j (s : Ses) (j : Int) : Option Shn := s.shown.find? fun x => decide (x.j = j)
section
variable {α : Type}
theorem found {d : α → Int} {l : List α} (hf : FallsS d l) : (k8m d l = true → ∃ h : k0u d l < l.length, l.find? (fun x => decide (d x = 0)) = some l[k0u d l]) ∧ (k8m d l = false → l.find? (fun x => decide (d x = 0)) = none) := by
 have hlow : ∀ k, k < k0u d l → ∀ h : k < l.length, d l[k] < 0 := fun k hk h => by
  have := List.not_of_lt_findIdx hk
  simpa using this
 constructor
 ·intro h
  unfold k8m at h
  split at h
  ·rename_i hl
   refine ⟨hl, ?_⟩
   rw [List.find?_eq_some_iff_getElem]
   refine ⟨h, k0u d l, hl, rfl, fun j hj => ?_⟩
   have := hlow j hj (by omega)
   simp
   omega
  ·cases h
 ·intro h
  rw [List.find?_eq_none]
  intro x hx
  obtain ⟨k, hk, rfl⟩ := List.mem_iff_getElem.1 hx
  have hup : k0u d l ≤ k → k0u d l < l.length := fun h2 => by omega
  simp only [decide_eq_true_eq]
  intro e
  rcases Nat.lt_or_ge k (k0u d l) with h1 | h1
  ·have := hlow k h1 hk; omega
  ·have hl := hup h1
   unfold k8m at h
   rw [dif_pos hl] at h
   have h2 : ¬ d l[k0u d l] = 0 := of_decide_eq_false h
   have h3 : 0 ≤ d l[k0u d l] := by
    exact of_decide_eq_true (List.findIdx_getElem (p := fun x => decide (0 ≤ d x)) (xs := l) (w := hl))
   rcases Nat.lt_or_ge (k0u d l) k with h4 | h4
   ·have h5 := hf.out (k0u d l) k h4 hk (by omega) (h' := hl)
    omega
   ·have : k = k0u d l := by omega
    subst this
    exact h2 e
end
def k5o {α : Type} (d : α → Int) (sm : α → Bool) (l : List α) (x : α) : Option (List α) := if k8m d l = true then (match l[k0u d l]? with
 | some y => if sm y = true then some l else none
 | none => none) else some (ins l (k0u d l) x)
theorem z0s {α : Type} {d : α → Int} {l : List α} : k0u d l ≤ l.length := List.findIdx_le_length
theorem k30 {α : Type} {d : α → Int} {l : List α} (h : k8m d l = true) : k0u d l < l.length := by
 unfold k8m at h
 split at h
 ·rename_i h1; exact h1
 ·cases h
theorem k7o {l : List Card} (h : q54 cJ l = true) (n : Int) : FallsS (fun x => k1f x.j n) l :=
 z4x (c := cJ) (fun x y h1 h2 => by
  have a := q66.1 h1
  have b : ¬ n < y.j := fun h => by have := z0r.2 h; omega
  exact q66.2 (by omega)) (q85 z4y h)
theorem k5g {l : List Shn} (h : q54 nJ l = true) (n : Int) : FallsS (fun x => k1f x.j n) l :=
 z4x (c := nJ) (fun x y h1 h2 => by
  have a := q66.1 h1
  have b : ¬ n < y.j := fun h => by have := z0r.2 h; omega
  exact q66.2 (by omega)) (q85 z4z h)
theorem z0t {l : List Sh} (h : q54 q95 l = true) (y : Sh) : FallsS (fun x => q95 x y) l :=
 z4x (c := q95) (fun x z h1 h2 => by
  by_cases e : q95 z y = 0
  ·have := z8l.1 e
   rw [q9y] at h1 ⊢
   omega
  ·exact k2g _ _ _ h1 (by omega)) (q85 k2g h)
theorem j4v (s : Ses) (j : Int) : q8e s j = s.sealed.find? fun x => decide (k1f x.j j = 0) := by
 unfold q8e
 congr 1
 funext x
 exact decide_eq_decide.2 cmpI_eq.symm
theorem j1u (s : Ses) (j : Int) : k0j s j = s.shown.find? fun x => decide (k1f x.j j = 0) := by
 unfold k0j
 congr 1
 funext x
 exact decide_eq_decide.2 cmpI_eq.symm
def q78 (s : Ses) (x : Card) : Bool := chk x.r x.e x.j x.c && decide (x.r = s.round) && decide (x.e = s.entry) && decide (x.j ∈ s.judges) && decide ((x.c.length : Int) = s.crits)
def q67 (s : Ses) (x : Sh) : Bool := decide (x.o ∈ s.judges) && decide (x.h ∈ s.judges) && decide (x.o ≠ x.h) && wiL x.c s.crits && wiL x.v 1073741789
def q9j (y : Card) (x : Shn) : Option (List Int) := k4k y.r y.e y.j y.c y.d.1 x.k x.s.1
def q79 (s : Ses) (x : Shn) : Bool := match q8e s x.j with
 | none => false
 | some y => (q9j y x).isSome
def k1c (s : Ses) : Bool := wiL s.round 8 && wiL s.entry 4096 && wiL (s.crits - 1) 64 && wiL ((s.judges.length : Int) - 1) 24 && wiL (s.need - 1) s.judges.length && wiL s.deadline 2097152 && wiL s.time 2097152
def q6j (s : Ses) : Bool :=
 k1c s && ((q54 k1f s.judges && s.judges.all fun n => wiL n 256) && ((q54 cJ s.sealed && s.sealed.all (q78 s)) && ((q54 q95 s.keys && s.keys.all (q67 s)) && ((q54 nJ s.shown && s.shown.all (q79 s)) && (q6l s || decide ((s.keys.length : Int) + s.shown.length = 0))))))
structure Ses.Len (s : Ses) : Prop where
 judges : s.judges.length ≤ 100000
 sealed : s.sealed.length ≤ 1024
 keys : s.keys.length ≤ 1024
 shown : s.shown.length ≤ 1024
 cards : ∀ x ∈ s.sealed, x.c.length ≤ 100000
 given : ∀ x ∈ s.shown, x.k.length ≤ 100000
 crits : -9223372036854775808 ≤ s.crits ∧ s.crits < 9223372036854775808
 need : -9223372036854775808 ≤ s.need ∧ s.need < 9223372036854775808
theorem z40 {n m : Int} (h1 : -9223372036854775808 ≤ n) (h2 : n < 9223372036854775808) (hm : m ≤ 4611686018427387904) : wiL (IntKind.i64.wrap (n - 1)) m = wiL (n - 1) m := by
 by_cases e : n = -9223372036854775808
 ·subst e
  have e1 : IntKind.i64.wrap (-9223372036854775808 - 1) = 9223372036854775807 := by decide
  rw [e1]
  unfold wiL
  rw [decide_eq_false (show ¬ (9223372036854775807 : Int) < m by omega), decide_eq_false (show ¬ (0 : Int) ≤ -9223372036854775808 - 1 by decide), Bool.and_false, Bool.false_and]
 ·rw [q5o (by omega) (by omega)]
open Go.Pv
set_option maxRecDepth 100000
set_option maxHeartbeats 4000000
theorem z8m (g : FuncId) (c : Int → Int → Int) (t : Bool) (l : List Int) (hl : l.length ≤ 9223372036854775807) (st : q5e) (hg : ∀ x ∈ l, ∀ y ∈ l, ∀ st, Rets P g [.int x, .int y] st (.int (c x y))) : Rets P F.q3w [q5k t l, .func (.func g) [] []] st (.bool (q54 c l)) := by
 obtain ⟨w, hw⟩ : ∃ w, w = q54 c l := ⟨_, rfl⟩
 rw [← hw]
 have kw : Hid (w = true ↔ ∀ i (h : i + 1 < l.length), c l[i] l[i + 1] < 0) := ⟨by rw [hw]; exact q8a c l⟩
 clear hw
 refine H.q3w.view q5n rfl rfl ?_
 repeat' (simp -dsimp -implicitDefEqProofs [*])
 refine q5h (fun n : Nat => [(0, q5k t l), (1, .func (.func g) [] []), (5, .int n)]) (fun _ => st) (fun n => 1 ≤ n ∧ n ≤ max 1 l.length ∧ Hid (∀ i (_ : i + 1 < n) (h : i + 1 < l.length), c l[i] l[i + 1] < 0)) (fun n => l.length - n) 1 ⟨Nat.le_refl _, by omega, ⟨fun i h => absurd h (by omega)⟩⟩ (by simp) (.refl _) ?_
 rintro n ⟨hn1, hn, hI⟩
 by_cases hnl : n < l.length
 ·obtain ⟨m, rfl⟩ : ∃ m, n = m + 1 := ⟨n - 1, by omega⟩
  have hml : m < l.length := by omega
  have hw := q5i (n := m + 1) (by omega)
  have wk : IntKind.i64.wrap (((m + 1 : Nat) : Int) - 1) = (m : Int) := by rw [q5o (by omega) (by omega)]; omega
  have hc := hg l[m] (List.getElem_mem hml) l[m + 1] (List.getElem_mem hnl)
  have s0 := q57 l m hml
  have s1 := q57 l (m + 1) hnl
  have E0 : ∀ h, (q6i l)[m]'h = .int l[m] := fun h => q74 l m h
  have E1 : ∀ h, (q6i l)[m + 1]'h = .int l[m + 1] := fun h => q74 l (m + 1) h
  have hst : Hid (c l[m] l[m + 1] < 0 → ∀ i (_ : i + 1 < m + 2) (h : i + 1 < l.length), c l[i] l[i + 1] < 0) := ⟨fun h i hi h2 => if e : i = m then by subst e; exact h else hI.out i (by omega) h2⟩
  have hno : Hid (¬ c l[m] l[m + 1] < 0 → w = false) := ⟨fun h => Bool.eq_false_iff.2 fun e => h (kw.out.1 e m hnl)⟩
  obtain ⟨x, hx⟩ : ∃ x, x = l[m] := ⟨_, rfl⟩
  obtain ⟨y, hy⟩ : ∃ y, y = l[m + 1] := ⟨_, rfl⟩
  rw [← hx, ← hy] at hc hst hno
  rw [← hx] at s0 E0
  rw [← hy] at s1 E1
  obtain ⟨v, hv⟩ : ∃ v, v = c x y := ⟨_, rfl⟩
  rw [← hv] at hc hst hno
  obtain ⟨n, hnk⟩ : ∃ n, n = m + 1 := ⟨_, rfl⟩
  have hst2 : Hid (v < 0 → ∀ i (_ : i + 1 < n + 1) (h : i + 1 < l.length), c l[i] l[i + 1] < 0) := ⟨by rw [hnk]; exact hst.out⟩
  rw [← hnk] at hw wk hnl s1 E1 ⊢
  have hn2 : n * 1 < l.length * 1 ∧ m * 1 < l.length * 1 := by omega
  clear hI hg hx hy hv hnk hst kw hn1 hn
  by_cases h : v < 0
  ·have h3 := Hid.mk (hst2.out h)
   clear hst2 hno
   repeat' (first 
    | (with_reducible refine Rets.xcall (hc _) ?_)
    | (with_reducible refine DrawLate.intro [] ?_)
    | (with_reducible refine And.intro (fun h => ?_) ?_) <;> (try (exfalso; omega))
    | (simp -dsimp -implicitDefEqProofs [*]))
   exact Next.intro (n + 1) ⟨by omega, by omega, h3⟩ (by omega) (by simp) q5p
  ·have h3 := hno.out h
   have h4 : 0 ≤ v := by omega
   subst h3
   clear hst2 hno
   repeat' (first 
    | (with_reducible refine Rets.xcall (hc _) ?_)
    | (with_reducible refine DrawLate.intro [] ?_)
    | (simp -dsimp -implicitDefEqProofs [*]))
   exact .same ⟨rfl, rfl⟩
 ·have hw : w = true := kw.out.2 fun i h => hI.out i (by omega) h
  subst hw
  have hnl2 : ¬ (n : Int) < l.length := by omega
  clear hI kw hg hn hnl
  repeat' (simp -dsimp -implicitDefEqProofs [*])
  exact .same ⟨rfl, rfl⟩
theorem j4w (g : FuncId) (cs : List PV) (p : Int → Bool) (t : Bool) (l : List Int) (hl : l.length ≤ 9223372036854775807) (st : q5e) (hf : ∀ x ∈ l, Rets P g (.int x :: cs) st (.bool (p x))) : Rets P F.q08 [q5k t l, .func (.func g) [] cs] st (.int (k8l p l)) := by
 refine H.q08.view q5n rfl rfl ?_
 repeat' (simp -dsimp -implicitDefEqProofs [*])
 refine q5h (fun n : Nat => [(0, q5k t l), (1, .func (.func g) [] cs), (7, .int l.length), (8, .int n)]) (fun _ => st) (fun n => n ≤ l.length ∧ Hid (∀ j (_ : j < n) (hl : j < l.length), p l[j] = false)) (fun n => l.length - n) 0 ⟨Nat.zero_le _, ⟨fun j hj => absurd hj (by omega)⟩⟩ (by simp) (.refl _) ?_
 rintro n ⟨hn, he2⟩
 by_cases hnl : n < l.length
 ·have hw := q5i (n := n) (by omega)
  have hf1 := hf l[n] (List.getElem_mem hnl)
  have hi : Hid (p l[n] = true → k8l p l = n) := ⟨fun hp => q9x hnl (fun j hj => he2.out j hj (by omega)) hp⟩
  have hno : Hid (p l[n] = false → ∀ j (_ : j < n + 1) (hl : j < l.length), p l[j] = false) := ⟨fun hp j hj hl => if h : j = n then by subst h; exact hp else he2.out j (by omega) hl⟩
  have s0 := q57 l n hnl
  have hn2 : n * 1 < l.length * 1 := by omega
  clear hf he2
  cases hp : p l[n] with
  | true =>
   rw [hp] at hf1
   have e := hi.out hp
   rw [e]
   clear hp hi hno
   repeat' (first 
    | (with_reducible refine Rets.xcall (hf1) ?_)
    | (simp -dsimp -implicitDefEqProofs [*]))
   exact .same ⟨rfl, rfl⟩
  | false =>
   rw [hp] at hf1
   have e : Hid _ := ⟨hno.out hp⟩
   clear hp hi hno
   repeat' (first 
    | (with_reducible refine Rets.xcall (hf1) ?_)
    | (simp -dsimp -implicitDefEqProofs [*]))
   exact Next.intro (n + 1) ⟨by omega, e⟩ (by omega) (by simp) q5p
 ·have e : n = l.length := by omega
  subst e
  have hi : Hid (k8l p l = -1) := ⟨k1b fun j hj => he2.out j hj hj⟩
  rw [hi.out]
  clear hf he2
  repeat' (simp -dsimp -implicitDefEqProofs [*])
  exact .same ⟨rfl, rfl⟩
theorem j1v (g : FuncId) (cs : List PV) (p : Int → Bool) (t : Bool) (l : List Int) (hl : l.length ≤ 9223372036854775807) (st : q5e) (hf : ∀ x ∈ l, Rets P g (.int x :: cs) st (.bool (p x))) : Rets P F.q0o [q5k t l, .func (.func g) [] cs] st (.bool (l.any p)) := by
 have hi := j4w g cs p t l hl st hf
 have e := k6t p l
 rw [← e]
 obtain ⟨v, hv⟩ : ∃ v, v = k8l p l := ⟨_, rfl⟩
 rw [← hv] at hi ⊢
 clear hv e hf
 refine H.q0o.pure q5n rfl rfl ?_
 repeat' (first 
  | (with_reducible refine Rets.xcall (hi) ?_)
  | (simp -dsimp -implicitDefEqProofs [*]))
theorem j1w (g : FuncId) (fs : List PV) (p0 : Nat) (U : TypeId) (w : Bool) (x : Int) (st0 st : q5e) (hp0 : q6x st0 p0) (hs : st = (p0, .arr U [.func (.func g) fs []]) :: st0) (hg : ∀ st, StLe st0 st → Rets P g (fs ++ [.int x]) st (.bool w)) : Rets P F.q28 [.int x, .ptr p0 0] st (.bool (!w)) := by
 subst hs
 refine H.q28.pure q5n rfl rfl ?_
 have hg1 := hg ((p0, .arr U [.func (.func g) fs []]) :: st0) (.fresh hp0)
 repeat' (first 
  | (with_reducible refine Rets.xcall (hg1) ?_)
  | (simp -dsimp -implicitDefEqProofs [*]))
theorem j4x (g : FuncId) (fs : List PV) (p : Int → Bool) (t : Bool) (l : List Int) (hl : l.length ≤ 9223372036854775807) (st : q5e) (hg : ∀ x ∈ l, ∀ st', StLe st st' → Rets P g (fs ++ [.int x]) st' (.bool (p x))) : Rets P F.q38 [q5k t l, .func (.func g) fs []] st (.bool (l.all p)) := by
 refine H.q38.pure q5n rfl rfl ?_
 repeat' (first 
  | (with_reducible refine Fresh.intro fun b hb => ?_) <;> (try simp -dsimp -implicitDefEqProofs [*] at hb)
  | (simp -dsimp -implicitDefEqProofs [*]))
 have hc := j1v F.q28 [.ptr b 0] (fun x => !p x) t l hl ((b, .arr T.funcintbool [.func (.func g) fs []]) :: st) (fun x hx => j1w g fs b _ (p x) x st _ hb rfl (hg x hx))
 have e : (!l.any fun x => !p x) = l.all p := by rw [List.all_eq_not_any_not]
 rw [← e]
 generalize (l.any fun x => !p x) = w at *
 clear hg e
 repeat' (first 
  | (with_reducible refine Rets.xcall (hc) ?_)
  | (simp -dsimp -implicitDefEqProofs [*]))
open Go.Pv
set_option maxRecDepth 100000
set_option maxHeartbeats 4000000
theorem z8n (g : FuncId) (c : Card → Card → Int) (t : Bool) (l : List Card) (hl : l.length ≤ 9223372036854775807) (st : q5e) (hg : ∀ x ∈ l, ∀ y ∈ l, ∀ st, Rets P g [x.pv, y.pv] st (.int (c x y))) : Rets P F.q2i [Card.lst t l, .func (.func g) [] []] st (.bool (q54 c l)) := by
 obtain ⟨w, hw⟩ : ∃ w, w = q54 c l := ⟨_, rfl⟩
 rw [← hw]
 have kw : Hid (w = true ↔ ∀ i (h : i + 1 < l.length), c l[i] l[i + 1] < 0) := ⟨by rw [hw]; exact q8a c l⟩
 clear hw
 refine H.q2i.view q5n rfl rfl ?_
 repeat' (simp -dsimp -implicitDefEqProofs [*])
 refine q5h (fun n : Nat => [(0, Card.lst t l), (1, .func (.func g) [] []), (5, .int n)]) (fun _ => st) (fun n => 1 ≤ n ∧ n ≤ max 1 l.length ∧ Hid (∀ i (_ : i + 1 < n) (h : i + 1 < l.length), c l[i] l[i + 1] < 0)) (fun n => l.length - n) 1 ⟨Nat.le_refl _, by omega, ⟨fun i h => absurd h (by omega)⟩⟩ (by simp) (.refl _) ?_
 rintro n ⟨hn1, hn, hI⟩
 by_cases hnl : n < l.length
 ·obtain ⟨m, rfl⟩ : ∃ m, n = m + 1 := ⟨n - 1, by omega⟩
  have hml : m < l.length := by omega
  have hw := q5i (n := m + 1) (by omega)
  have wk : IntKind.i64.wrap (((m + 1 : Nat) : Int) - 1) = (m : Int) := by rw [q5o (by omega) (by omega)]; omega
  have hc := hg l[m] (List.getElem_mem hml) l[m + 1] (List.getElem_mem hnl)
  have s0 := Card.row_sub l m hml
  have s1 := Card.row_sub l (m + 1) hnl
  have hst : Hid (c l[m] l[m + 1] < 0 → ∀ i (_ : i + 1 < m + 2) (h : i + 1 < l.length), c l[i] l[i + 1] < 0) := ⟨fun h i hi h2 => if e : i = m then by subst e; exact h else hI.out i (by omega) h2⟩
  have hno : Hid (¬ c l[m] l[m + 1] < 0 → w = false) := ⟨fun h => Bool.eq_false_iff.2 fun e => h (kw.out.1 e m hnl)⟩
  obtain ⟨x, hx⟩ : ∃ x, x = l[m] := ⟨_, rfl⟩
  obtain ⟨y, hy⟩ : ∃ y, y = l[m + 1] := ⟨_, rfl⟩
  rw [← hx, ← hy] at hc hst hno
  rw [← hx] at s0
  rw [← hy] at s1
  obtain ⟨v, hv⟩ : ∃ v, v = c x y := ⟨_, rfl⟩
  rw [← hv] at hc hst hno
  obtain ⟨n, hnk⟩ : ∃ n, n = m + 1 := ⟨_, rfl⟩
  have hst2 : Hid (v < 0 → ∀ i (_ : i + 1 < n + 1) (h : i + 1 < l.length), c l[i] l[i + 1] < 0) := ⟨by rw [hnk]; exact hst.out⟩
  rw [← hnk] at hw wk hnl s1 ⊢
  have hn2 : n * 36 < l.length * 36 ∧ m * 36 < l.length * 36 := by omega
  clear hI hg hx hy hv hnk hst kw hn1 hn
  by_cases h : v < 0
  ·have h3 := Hid.mk (hst2.out h)
   clear hst2 hno
   repeat' (first 
    | (with_reducible refine Rets.xcall (hc _) ?_)
    | (with_reducible refine DrawLate.intro [] ?_)
    | (with_reducible refine And.intro (fun h => ?_) ?_) <;> (try (exfalso; omega))
    | (simp -dsimp -implicitDefEqProofs [*]))
   exact Next.intro (n + 1) ⟨by omega, by omega, h3⟩ (by omega) (by simp) q5p
  ·have h3 := hno.out h
   have h4 : 0 ≤ v := by omega
   subst h3
   clear hst2 hno
   repeat' (first 
    | (with_reducible refine Rets.xcall (hc _) ?_)
    | (with_reducible refine DrawLate.intro [] ?_)
    | (simp -dsimp -implicitDefEqProofs [*]))
   exact .same ⟨rfl, rfl⟩
 ·have hw : w = true := kw.out.2 fun i h => hI.out i (by omega) h
  subst hw
  have hnl2 : ¬ (n : Int) < l.length := by omega
  clear hI kw hg hn hnl
  repeat' (simp -dsimp -implicitDefEqProofs [*])
  exact .same ⟨rfl, rfl⟩
theorem j4y (g : FuncId) (cs : List PV) (p : Card → Bool) (t : Bool) (l : List Card) (hl : l.length ≤ 9223372036854775807) (st : q5e) (hf : ∀ x ∈ l, Rets P g (x.pv :: cs) st (.bool (p x))) : Rets P F.q0x [Card.lst t l, .func (.func g) [] cs] st (.int (k8l p l)) := by
 refine H.q0x.view q5n rfl rfl ?_
 repeat' (simp -dsimp -implicitDefEqProofs [*])
 refine q5h (fun n : Nat => [(0, Card.lst t l), (1, .func (.func g) [] cs), (7, .int l.length), (8, .int n)]) (fun _ => st) (fun n => n ≤ l.length ∧ Hid (∀ j (_ : j < n) (hl : j < l.length), p l[j] = false)) (fun n => l.length - n) 0 ⟨Nat.zero_le _, ⟨fun j hj => absurd hj (by omega)⟩⟩ (by simp) (.refl _) ?_
 rintro n ⟨hn, he2⟩
 by_cases hnl : n < l.length
 ·have hw := q5i (n := n) (by omega)
  have hf1 := hf l[n] (List.getElem_mem hnl)
  have hi : Hid (p l[n] = true → k8l p l = n) := ⟨fun hp => q9x hnl (fun j hj => he2.out j hj (by omega)) hp⟩
  have hno : Hid (p l[n] = false → ∀ j (_ : j < n + 1) (hl : j < l.length), p l[j] = false) := ⟨fun hp j hj hl => if h : j = n then by subst h; exact hp else he2.out j (by omega) hl⟩
  have s0 := Card.row_sub l n hnl
  have hn2 : n * 36 < l.length * 36 := by omega
  clear hf he2
  cases hp : p l[n] with
  | true =>
   rw [hp] at hf1
   have e := hi.out hp
   rw [e]
   clear hp hi hno
   repeat' (first 
    | (with_reducible refine Rets.xcall (hf1) ?_)
    | (simp -dsimp -implicitDefEqProofs [*]))
   exact .same ⟨rfl, rfl⟩
  | false =>
   rw [hp] at hf1
   have e : Hid _ := ⟨hno.out hp⟩
   clear hp hi hno
   repeat' (first 
    | (with_reducible refine Rets.xcall (hf1) ?_)
    | (simp -dsimp -implicitDefEqProofs [*]))
   exact Next.intro (n + 1) ⟨by omega, e⟩ (by omega) (by simp) q5p
 ·have e : n = l.length := by omega
  subst e
  have hi : Hid (k8l p l = -1) := ⟨k1b fun j hj => he2.out j hj hj⟩
  rw [hi.out]
  clear hf he2
  repeat' (simp -dsimp -implicitDefEqProofs [*])
  exact .same ⟨rfl, rfl⟩
theorem j1x (g : FuncId) (cs : List PV) (p : Card → Bool) (t : Bool) (l : List Card) (hl : l.length ≤ 9223372036854775807) (st : q5e) (hf : ∀ x ∈ l, Rets P g (x.pv :: cs) st (.bool (p x))) : Rets P F.q0q [Card.lst t l, .func (.func g) [] cs] st (.bool (l.any p)) := by
 have hi := j4y g cs p t l hl st hf
 have e := k6t p l
 rw [← e]
 obtain ⟨v, hv⟩ : ∃ v, v = k8l p l := ⟨_, rfl⟩
 rw [← hv] at hi ⊢
 clear hv e hf
 refine H.q0q.pure q5n rfl rfl ?_
 repeat' (first 
  | (with_reducible refine Rets.xcall (hi) ?_)
  | (simp -dsimp -implicitDefEqProofs [*]))
theorem j1y (g : FuncId) (fs : List PV) (p0 : Nat) (U : TypeId) (w : Bool) (x : Card) (st0 st : q5e) (hp0 : q6x st0 p0) (hs : st = (p0, .arr U [.func (.func g) fs []]) :: st0) (hg : ∀ st, StLe st0 st → Rets P g (fs ++ [x.pv]) st (.bool w)) : Rets P F.q1q [x.pv, .ptr p0 0] st (.bool (!w)) := by
 subst hs
 refine H.q1q.pure q5n rfl rfl ?_
 repeat' (first 
  | (with_reducible refine Fresh.intro fun b hb => ?_) <;> (try simp -dsimp -implicitDefEqProofs [*] at hb)
  | (simp -dsimp -implicitDefEqProofs [*]))
 have hg1 := hg ((b, .arr T.apiSealed x.enc) :: (p0, .arr U [.func (.func g) fs []]) :: st0) (.trans (.fresh hp0) (.fresh (by simp [*])))
 repeat' (first 
  | (with_reducible refine Rets.xcall (hg1) ?_)
  | (simp -dsimp -implicitDefEqProofs [*]))
theorem j4z (g : FuncId) (fs : List PV) (p : Card → Bool) (t : Bool) (l : List Card) (hl : l.length ≤ 9223372036854775807) (st : q5e) (hg : ∀ x ∈ l, ∀ st', StLe st st' → Rets P g (fs ++ [x.pv]) st' (.bool (p x))) : Rets P F.q2v [Card.lst t l, .func (.func g) fs []] st (.bool (l.all p)) := by
 refine H.q2v.pure q5n rfl rfl ?_
 repeat' (first 
  | (with_reducible refine Fresh.intro fun b hb => ?_) <;> (try simp -dsimp -implicitDefEqProofs [*] at hb)
  | (simp -dsimp -implicitDefEqProofs [*]))
 have hc := j1x F.q1q [.ptr b 0] (fun x => !p x) t l hl ((b, .arr T.q5a [.func (.func g) fs []]) :: st) (fun x hx => j1y g fs b _ (p x) x st _ hb rfl (hg x hx))
 have e : (!l.any fun x => !p x) = l.all p := by rw [List.all_eq_not_any_not]
 rw [← e]
 generalize (l.any fun x => !p x) = w at *
 clear hg e
 repeat' (first 
  | (with_reducible refine Rets.xcall (hc) ?_)
  | (simp -dsimp -implicitDefEqProofs [*]))
open Go.Pv
set_option maxRecDepth 100000
set_option maxHeartbeats 4000000
theorem z8o (g : FuncId) (c : Sh → Sh → Int) (t : Bool) (l : List Sh) (hl : l.length ≤ 9223372036854775807) (st : q5e) (hg : ∀ x ∈ l, ∀ y ∈ l, ∀ st, Rets P g [x.pv, y.pv] st (.int (c x y))) : Rets P F.q18 [Sh.lst t l, .func (.func g) [] []] st (.bool (q54 c l)) := by
 obtain ⟨w, hw⟩ : ∃ w, w = q54 c l := ⟨_, rfl⟩
 rw [← hw]
 have kw : Hid (w = true ↔ ∀ i (h : i + 1 < l.length), c l[i] l[i + 1] < 0) := ⟨by rw [hw]; exact q8a c l⟩
 clear hw
 refine H.q18.view q5n rfl rfl ?_
 repeat' (simp -dsimp -implicitDefEqProofs [*])
 refine q5h (fun n : Nat => [(0, Sh.lst t l), (1, .func (.func g) [] []), (5, .int n)]) (fun _ => st) (fun n => 1 ≤ n ∧ n ≤ max 1 l.length ∧ Hid (∀ i (_ : i + 1 < n) (h : i + 1 < l.length), c l[i] l[i + 1] < 0)) (fun n => l.length - n) 1 ⟨Nat.le_refl _, by omega, ⟨fun i h => absurd h (by omega)⟩⟩ (by simp) (.refl _) ?_
 rintro n ⟨hn1, hn, hI⟩
 by_cases hnl : n < l.length
 ·obtain ⟨m, rfl⟩ : ∃ m, n = m + 1 := ⟨n - 1, by omega⟩
  have hml : m < l.length := by omega
  have hw := q5i (n := m + 1) (by omega)
  have wk : IntKind.i64.wrap (((m + 1 : Nat) : Int) - 1) = (m : Int) := by rw [q5o (by omega) (by omega)]; omega
  have hc := hg l[m] (List.getElem_mem hml) l[m + 1] (List.getElem_mem hnl)
  have s0 := Sh.row_sub l m hml
  have s1 := Sh.row_sub l (m + 1) hnl
  have hst : Hid (c l[m] l[m + 1] < 0 → ∀ i (_ : i + 1 < m + 2) (h : i + 1 < l.length), c l[i] l[i + 1] < 0) := ⟨fun h i hi h2 => if e : i = m then by subst e; exact h else hI.out i (by omega) h2⟩
  have hno : Hid (¬ c l[m] l[m + 1] < 0 → w = false) := ⟨fun h => Bool.eq_false_iff.2 fun e => h (kw.out.1 e m hnl)⟩
  obtain ⟨x, hx⟩ : ∃ x, x = l[m] := ⟨_, rfl⟩
  obtain ⟨y, hy⟩ : ∃ y, y = l[m + 1] := ⟨_, rfl⟩
  rw [← hx, ← hy] at hc hst hno
  rw [← hx] at s0
  rw [← hy] at s1
  obtain ⟨v, hv⟩ : ∃ v, v = c x y := ⟨_, rfl⟩
  rw [← hv] at hc hst hno
  obtain ⟨n, hnk⟩ : ∃ n, n = m + 1 := ⟨_, rfl⟩
  have hst2 : Hid (v < 0 → ∀ i (_ : i + 1 < n + 1) (h : i + 1 < l.length), c l[i] l[i + 1] < 0) := ⟨by rw [hnk]; exact hst.out⟩
  rw [← hnk] at hw wk hnl s1 ⊢
  have hn2 : n * 4 < l.length * 4 ∧ m * 4 < l.length * 4 := by omega
  clear hI hg hx hy hv hnk hst kw hn1 hn
  by_cases h : v < 0
  ·have h3 := Hid.mk (hst2.out h)
   clear hst2 hno
   repeat' (first 
    | (with_reducible refine Rets.xcall (hc _) ?_)
    | (with_reducible refine DrawLate.intro [] ?_)
    | (with_reducible refine And.intro (fun h => ?_) ?_) <;> (try (exfalso; omega))
    | (simp -dsimp -implicitDefEqProofs [*]))
   exact Next.intro (n + 1) ⟨by omega, by omega, h3⟩ (by omega) (by simp) q5p
  ·have h3 := hno.out h
   have h4 : 0 ≤ v := by omega
   subst h3
   clear hst2 hno
   repeat' (first 
    | (with_reducible refine Rets.xcall (hc _) ?_)
    | (with_reducible refine DrawLate.intro [] ?_)
    | (simp -dsimp -implicitDefEqProofs [*]))
   exact .same ⟨rfl, rfl⟩
 ·have hw : w = true := kw.out.2 fun i h => hI.out i (by omega) h
  subst hw
  have hnl2 : ¬ (n : Int) < l.length := by omega
  clear hI kw hg hn hnl
  repeat' (simp -dsimp -implicitDefEqProofs [*])
  exact .same ⟨rfl, rfl⟩
theorem j40 (g : FuncId) (cs : List PV) (p : Sh → Bool) (t : Bool) (l : List Sh) (hl : l.length ≤ 9223372036854775807) (st : q5e) (hf : ∀ x ∈ l, Rets P g (x.pv :: cs) st (.bool (p x))) : Rets P F.q0n [Sh.lst t l, .func (.func g) [] cs] st (.int (k8l p l)) := by
 refine H.q0n.view q5n rfl rfl ?_
 repeat' (simp -dsimp -implicitDefEqProofs [*])
 refine q5h (fun n : Nat => [(0, Sh.lst t l), (1, .func (.func g) [] cs), (7, .int l.length), (8, .int n)]) (fun _ => st) (fun n => n ≤ l.length ∧ Hid (∀ j (_ : j < n) (hl : j < l.length), p l[j] = false)) (fun n => l.length - n) 0 ⟨Nat.zero_le _, ⟨fun j hj => absurd hj (by omega)⟩⟩ (by simp) (.refl _) ?_
 rintro n ⟨hn, he2⟩
 by_cases hnl : n < l.length
 ·have hw := q5i (n := n) (by omega)
  have hf1 := hf l[n] (List.getElem_mem hnl)
  have hi : Hid (p l[n] = true → k8l p l = n) := ⟨fun hp => q9x hnl (fun j hj => he2.out j hj (by omega)) hp⟩
  have hno : Hid (p l[n] = false → ∀ j (_ : j < n + 1) (hl : j < l.length), p l[j] = false) := ⟨fun hp j hj hl => if h : j = n then by subst h; exact hp else he2.out j (by omega) hl⟩
  have s0 := Sh.row_sub l n hnl
  have hn2 : n * 4 < l.length * 4 := by omega
  clear hf he2
  cases hp : p l[n] with
  | true =>
   rw [hp] at hf1
   have e := hi.out hp
   rw [e]
   clear hp hi hno
   repeat' (first 
    | (with_reducible refine Rets.xcall (hf1) ?_)
    | (simp -dsimp -implicitDefEqProofs [*]))
   exact .same ⟨rfl, rfl⟩
  | false =>
   rw [hp] at hf1
   have e : Hid _ := ⟨hno.out hp⟩
   clear hp hi hno
   repeat' (first 
    | (with_reducible refine Rets.xcall (hf1) ?_)
    | (simp -dsimp -implicitDefEqProofs [*]))
   exact Next.intro (n + 1) ⟨by omega, e⟩ (by omega) (by simp) q5p
 ·have e : n = l.length := by omega
  subst e
  have hi : Hid (k8l p l = -1) := ⟨k1b fun j hj => he2.out j hj hj⟩
  rw [hi.out]
  clear hf he2
  repeat' (simp -dsimp -implicitDefEqProofs [*])
  exact .same ⟨rfl, rfl⟩
theorem j1z (g : FuncId) (cs : List PV) (p : Sh → Bool) (t : Bool) (l : List Sh) (hl : l.length ≤ 9223372036854775807) (st : q5e) (hf : ∀ x ∈ l, Rets P g (x.pv :: cs) st (.bool (p x))) : Rets P F.q0j [Sh.lst t l, .func (.func g) [] cs] st (.bool (l.any p)) := by
 have hi := j40 g cs p t l hl st hf
 have e := k6t p l
 rw [← e]
 obtain ⟨v, hv⟩ : ∃ v, v = k8l p l := ⟨_, rfl⟩
 rw [← hv] at hi ⊢
 clear hv e hf
 refine H.q0j.pure q5n rfl rfl ?_
 repeat' (first 
  | (with_reducible refine Rets.xcall (hi) ?_)
  | (simp -dsimp -implicitDefEqProofs [*]))
theorem j10 (g : FuncId) (fs : List PV) (p0 : Nat) (U : TypeId) (w : Bool) (x : Sh) (st0 st : q5e) (hp0 : q6x st0 p0) (hs : st = (p0, .arr U [.func (.func g) fs []]) :: st0) (hg : ∀ st, StLe st0 st → Rets P g (fs ++ [x.pv]) st (.bool w)) : Rets P F.q1h [x.pv, .ptr p0 0] st (.bool (!w)) := by
 subst hs
 refine H.q1h.pure q5n rfl rfl ?_
 repeat' (first 
  | (with_reducible refine Fresh.intro fun b hb => ?_) <;> (try simp -dsimp -implicitDefEqProofs [*] at hb)
  | (simp -dsimp -implicitDefEqProofs [*]))
 have hg1 := hg ((b, .arr T.apiKeyShare x.enc) :: (p0, .arr U [.func (.func g) fs []]) :: st0) (.trans (.fresh hp0) (.fresh (by simp [*])))
 repeat' (first 
  | (with_reducible refine Rets.xcall (hg1) ?_)
  | (simp -dsimp -implicitDefEqProofs [*]))
theorem j41 (g : FuncId) (fs : List PV) (p : Sh → Bool) (t : Bool) (l : List Sh) (hl : l.length ≤ 9223372036854775807) (st : q5e) (hg : ∀ x ∈ l, ∀ st', StLe st st' → Rets P g (fs ++ [x.pv]) st' (.bool (p x))) : Rets P F.q2j [Sh.lst t l, .func (.func g) fs []] st (.bool (l.all p)) := by
 refine H.q2j.pure q5n rfl rfl ?_
 repeat' (first 
  | (with_reducible refine Fresh.intro fun b hb => ?_) <;> (try simp -dsimp -implicitDefEqProofs [*] at hb)
  | (simp -dsimp -implicitDefEqProofs [*]))
 have hc := j1z F.q1h [.ptr b 0] (fun x => !p x) t l hl ((b, .arr T.q5b [.func (.func g) fs []]) :: st) (fun x hx => j10 g fs b _ (p x) x st _ hb rfl (hg x hx))
 have e : (!l.any fun x => !p x) = l.all p := by rw [List.all_eq_not_any_not]
 rw [← e]
 generalize (l.any fun x => !p x) = w at *
 clear hg e
 repeat' (first 
  | (with_reducible refine Rets.xcall (hc) ?_)
  | (simp -dsimp -implicitDefEqProofs [*]))
end Go.Proofs.YtnooplpbpfiapaaGreatDoor
