/- Sessions: what is right, plain. -/
import Derived.Test.YtnooplpbpfiapaaGreatDoorG36A
namespace Go.Proofs.YtnooplpbpfiapaaGreatDoor
open Go.Pv
set_option maxRecDepth 100000
theorem q7x {a b : Int} : q9t a b < 0 ↔ a < b := by unfold q9t; split <;> (try split) <;> omega
theorem cmpI_eq {a b : Int} : q9t a b = 0 ↔ a = b := by unfold q9t; split <;> (try split) <;> omega
theorem k7f {a b : Int} : 0 < q9t a b ↔ b < a := by unfold q9t; split <;> (try split) <;> omega
theorem q9o {x y : Sh} : q82 x y < 0 ↔ x.o < y.o ∨ x.o = y.o ∧ (x.c < y.c ∨ x.c = y.c ∧ x.h < y.h) := by
 unfold q82 or3 q9t
 split <;> split <;> (try split) <;> (try split) <;> (try split) <;> (try split) <;> (try split) <;> omega
theorem z7h {x y : Sh} : q82 x y = 0 ↔ x.o = y.o ∧ x.c = y.c ∧ x.h = y.h := by
 unfold q82 or3 q9t
 split <;> split <;> (try split) <;> (try split) <;> (try split) <;> (try split) <;> (try split) <;> omega
section
variable {α : Type}
theorem q8x {c : α → α → Int} (ht : ∀ x y z, c x y < 0 → c y z < 0 → c x z < 0) {l : List α} (h : q54 c l = true) : l.Pairwise fun x y => c x y < 0 := by
 rw [q75] at h
 refine List.pairwise_iff_getElem.2 fun i j hi hj hij => ?_
 induction j with
 | zero => omega
 | succ j ih =>
  by_cases e : i = j
  ·subst e; exact h i hj
  ·exact ht _ _ _ (ih (by omega) (by omega)) (h j hj)
theorem k99 {c : α → α → Int} {l : List α} (h : l.Pairwise fun x y => c x y < 0) : q54 c l = true :=
 (q75 c l).2 fun i hi => List.pairwise_iff_getElem.1 h i (i + 1) (by omega) hi (by omega)
structure FallsS (d : α → Int) (l : List α) : Prop where
 out : ∀ a b, a < b → ∀ (h : b < l.length), d l[b] ≤ 0 → ∀ {h' : a < l.length}, d l[a] < 0
theorem FallsS.weak {d : α → Int} {l : List α} (h : FallsS d l) : Falls d l := ⟨fun a b hab hb hn ha => h.out a b hab hb (by omega)⟩
theorem z3z {c : α → α → Int} {d : α → Int} (hd : ∀ x y, c x y < 0 → d y ≤ 0 → d x < 0) {l : List α} (h : l.Pairwise fun x y => c x y < 0) : FallsS d l :=
 ⟨fun a b hab hb hn ha => hd _ _ (List.pairwise_iff_getElem.1 h a b ha hb hab) hn⟩
end
abbrev cJ (x y : Card) : Int := q9t x.j y.j
abbrev nJ (x y : Shn) : Int := q9t x.j y.j
theorem z30 (x y z : Card) (h : cJ x y < 0) (k : cJ y z < 0) : cJ x z < 0 := by
 rw [q7x] at *; omega
theorem z31 (x y z : Shn) (h : nJ x y < 0) (k : nJ y z < 0) : nJ x z < 0 := by
 rw [q7x] at *; omega
theorem k12 (x y z : Sh) (h : q82 x y < 0) (k : q82 y z < 0) : q82 x z < 0 := by
 rw [q9o] at *; omega
def q8p (s : Ses) (j : Int) : Option Card := s.sealed.find? fun x => decide (x.j = j)
def k1j (s : Ses) (j : Int) : Option Shn := s.shown.find? fun x => decide (x.j = j)
section
variable {α : Type}
theorem found {d : α → Int} {l : List α} (hf : FallsS d l) : (k8c d l = true → ∃ h : q97 d l < l.length, l.find? (fun x => decide (d x = 0)) = some l[q97 d l]) ∧ (k8c d l = false → l.find? (fun x => decide (d x = 0)) = none) := by
 have hlow : ∀ k, k < q97 d l → ∀ h : k < l.length, d l[k] < 0 := fun k hk h => by
  have := List.not_of_lt_findIdx hk
  simpa using this
 constructor
 ·intro h
  unfold k8c at h
  split at h
  ·rename_i hl
   refine ⟨hl, ?_⟩
   rw [List.find?_eq_some_iff_getElem]
   refine ⟨h, q97 d l, hl, rfl, fun j hj => ?_⟩
   have := hlow j hj (by omega)
   simp
   omega
  ·cases h
 ·intro h
  rw [List.find?_eq_none]
  intro x hx
  obtain ⟨k, hk, rfl⟩ := List.mem_iff_getElem.1 hx
  have hup : q97 d l ≤ k → q97 d l < l.length := fun h2 => by omega
  simp only [decide_eq_true_eq]
  intro e
  rcases Nat.lt_or_ge k (q97 d l) with h1 | h1
  ·have := hlow k h1 hk; omega
  ·have hl := hup h1
   unfold k8c at h
   rw [dif_pos hl] at h
   have h2 : ¬ d l[q97 d l] = 0 := of_decide_eq_false h
   have h3 : 0 ≤ d l[q97 d l] := by
    exact of_decide_eq_true (List.findIdx_getElem (p := fun x => decide (0 ≤ d x)) (xs := l) (w := hl))
   rcases Nat.lt_or_ge (q97 d l) k with h4 | h4
   ·have h5 := hf.out (q97 d l) k h4 hk (by omega) (h' := hl)
    omega
   ·have : k = q97 d l := by omega
    subst this
    exact h2 e
end
def k49 {α : Type} (d : α → Int) (sm : α → Bool) (l : List α) (x : α) : Option (List α) := if k8c d l = true then (match l[q97 d l]? with
 | some y => if sm y = true then some l else none
 | none => none) else some (ins l (q97 d l) x)
theorem z0a {α : Type} {d : α → Int} {l : List α} : q97 d l ≤ l.length := List.findIdx_le_length
theorem k5a {α : Type} {d : α → Int} {l : List α} (h : k8c d l = true) : q97 d l < l.length := by
 unfold k8c at h
 split at h
 ·rename_i h1; exact h1
 ·cases h
theorem k7g {l : List Card} (h : q54 cJ l = true) (n : Int) : FallsS (fun x => q9t x.j n) l :=
 z3z (c := cJ) (fun x y h1 h2 => by
  have a := q7x.1 h1
  have b : ¬ n < y.j := fun h => by have := k7f.2 h; omega
  exact q7x.2 (by omega)) (q8x z30 h)
theorem k5b {l : List Shn} (h : q54 nJ l = true) (n : Int) : FallsS (fun x => q9t x.j n) l :=
 z3z (c := nJ) (fun x y h1 h2 => by
  have a := q7x.1 h1
  have b : ¬ n < y.j := fun h => by have := k7f.2 h; omega
  exact q7x.2 (by omega)) (q8x z31 h)
theorem z0b {l : List Sh} (h : q54 q82 l = true) (y : Sh) : FallsS (fun x => q82 x y) l :=
 z3z (c := q82) (fun x z h1 h2 => by
  by_cases e : q82 z y = 0
  ·have := z7h.1 e
   rw [q9o] at h1 ⊢
   omega
  ·exact k12 _ _ _ h1 (by omega)) (q8x k12 h)
theorem j3q (s : Ses) (j : Int) : q8p s j = s.sealed.find? fun x => decide (q9t x.j j = 0) := by
 unfold q8p
 congr 1
 funext x
 exact decide_eq_decide.2 cmpI_eq.symm
theorem j0j (s : Ses) (j : Int) : k1j s j = s.shown.find? fun x => decide (q9t x.j j = 0) := by
 unfold k1j
 congr 1
 funext x
 exact decide_eq_decide.2 cmpI_eq.symm
def q8f (s : Ses) (x : Card) : Bool := chk x.r x.e x.j x.c && decide (x.r = s.round) && decide (x.e = s.entry) && decide (x.j ∈ s.judges) && decide ((x.c.length : Int) = s.crits)
def q7b (s : Ses) (x : Sh) : Bool := decide (x.o ∈ s.judges) && decide (x.h ∈ s.judges) && decide (x.o ≠ x.h) && wiL x.c s.crits && wiL x.v 1073741789
def q94 (y : Card) (x : Shn) : Option (List Int) := k46 y.r y.e y.j y.c y.d.1 x.k x.s.1
def q74 (s : Ses) (x : Shn) : Bool := match q8p s x.j with
 | none => false
 | some y => (q94 y x).isSome
def k01 (s : Ses) : Bool := wiL s.round 8 && wiL s.entry 4096 && wiL (s.crits - 1) 64 && wiL ((s.judges.length : Int) - 1) 24 && wiL (s.need - 1) s.judges.length && wiL s.deadline 2097152 && wiL s.time 2097152
def q6g (s : Ses) : Bool :=
 k01 s && ((q54 q9t s.judges && s.judges.all fun n => wiL n 256) && ((q54 cJ s.sealed && s.sealed.all (q8f s)) && ((q54 q82 s.keys && s.keys.all (q7b s)) && ((q54 nJ s.shown && s.shown.all (q74 s)) && (q78 s || decide ((s.keys.length : Int) + s.shown.length = 0))))))
structure Ses.Len (s : Ses) : Prop where
 judges : s.judges.length ≤ 100000
 sealed : s.sealed.length ≤ 1024
 keys : s.keys.length ≤ 1024
 shown : s.shown.length ≤ 1024
 cards : ∀ x ∈ s.sealed, x.c.length ≤ 100000
 given : ∀ x ∈ s.shown, x.k.length ≤ 100000
 crits : -9223372036854775808 ≤ s.crits ∧ s.crits < 9223372036854775808
 need : -9223372036854775808 ≤ s.need ∧ s.need < 9223372036854775808
theorem z33 {n m : Int} (h1 : -9223372036854775808 ≤ n) (h2 : n < 9223372036854775808) (hm : m ≤ 4611686018427387904) : wiL (IntKind.i64.wrap (n - 1)) m = wiL (n - 1) m := by
 by_cases e : n = -9223372036854775808
 ·subst e
  have e1 : IntKind.i64.wrap (-9223372036854775808 - 1) = 9223372036854775807 := by decide
  rw [e1]
  unfold wiL
  rw [decide_eq_false (show ¬ (9223372036854775807 : Int) < m by omega), decide_eq_false (show ¬ (0 : Int) ≤ -9223372036854775808 - 1 by decide), Bool.and_false, Bool.false_and]
 ·rw [q5n (by omega) (by omega)]
open Go.Pv
set_option maxRecDepth 100000
set_option maxHeartbeats 4000000
theorem z7i (g : FuncId) (c : Int → Int → Int) (t : Bool) (l : List Int) (hl : l.length ≤ 9223372036854775807) (st : q5d) (hg : ∀ x ∈ l, ∀ y ∈ l, ∀ st, Rets P g [.int x, .int y] st (.int (c x y))) : Rets P F.q3r [q5k t l, .func (.func g) [] []] st (.bool (q54 c l)) := by
 obtain ⟨w, hw⟩ : ∃ w, w = q54 c l := ⟨_, rfl⟩
 rw [← hw]
 have kw : Hid (w = true ↔ ∀ i (h : i + 1 < l.length), c l[i] l[i + 1] < 0) := ⟨by rw [hw]; exact q75 c l⟩
 clear hw
 refine H.q3r.view q5m rfl rfl ?_
 repeat' (simp -dsimp -implicitDefEqProofs [*])
 refine q5g (fun n : Nat => [(0, q5k t l), (1, .func (.func g) [] []), (5, .int n)]) (fun _ => st) (fun n => 1 ≤ n ∧ n ≤ max 1 l.length ∧ Hid (∀ i (_ : i + 1 < n) (h : i + 1 < l.length), c l[i] l[i + 1] < 0)) (fun n => l.length - n) 1 ⟨Nat.le_refl _, by omega, ⟨fun i h => absurd h (by omega)⟩⟩ (by simp) (.refl _) ?_
 rintro n ⟨hn1, hn, hI⟩
 by_cases hnl : n < l.length
 ·obtain ⟨m, rfl⟩ : ∃ m, n = m + 1 := ⟨n - 1, by omega⟩
  have hml : m < l.length := by omega
  have hw := q5h (n := m + 1) (by omega)
  have wk : IntKind.i64.wrap (((m + 1 : Nat) : Int) - 1) = (m : Int) := by rw [q5n (by omega) (by omega)]; omega
  have hc := hg l[m] (List.getElem_mem hml) l[m + 1] (List.getElem_mem hnl)
  have s0 := q6f l m hml
  have s1 := q6f l (m + 1) hnl
  have E0 : ∀ h, (q6x l)[m]'h = .int l[m] := fun h => k0v l m h
  have E1 : ∀ h, (q6x l)[m + 1]'h = .int l[m + 1] := fun h => k0v l (m + 1) h
  have hst : Hid (c l[m] l[m + 1] < 0 → ∀ i (_ : i + 1 < m + 2) (h : i + 1 < l.length), c l[i] l[i + 1] < 0) := ⟨fun h i hi h2 => if e : i = m then by subst e; exact h else hI.out i (by omega) h2⟩
  have hno : Hid (¬ c l[m] l[m + 1] < 0 → w = false) := ⟨fun h => Bool.eq_false_iff.2 fun e => h (kw.out.1 e m hnl)⟩
  obtain ⟨x, hx⟩ : ∃ x, x = l[m] := ⟨_, rfl⟩
  obtain ⟨y, hy⟩ : ∃ y, y = l[m + 1] := ⟨_, rfl⟩
  rw [← hx, ← hy] at hc hst hno
  rw [← hx] at s0 E0
  rw [← hy] at s1 E1
  obtain ⟨v, hv⟩ : ∃ v, v = c x y := ⟨_, rfl⟩
  rw [← hv] at hc hst hno
  obtain ⟨n, hnk⟩ : ∃ n, n = m + 1 := ⟨_, rfl⟩
  have hst2 : Hid (v < 0 → ∀ i (_ : i + 1 < n + 1) (h : i + 1 < l.length), c l[i] l[i + 1] < 0) := ⟨by rw [hnk]; exact hst.out⟩
  rw [← hnk] at hw wk hnl s1 E1 ⊢
  have hn2 : n * 1 < l.length * 1 ∧ m * 1 < l.length * 1 := by omega
  clear hI hg hx hy hv hnk hst kw hn1 hn
  by_cases h : v < 0
  ·have h3 := Hid.mk (hst2.out h)
   clear hst2 hno
   repeat' (first 
    | (with_reducible refine Rets.xcall (hc _) ?_)
    | (with_reducible refine DrawLate.intro [] ?_)
    | (with_reducible refine And.intro (fun h => ?_) ?_) <;> (try (exfalso; omega))
    | (simp -dsimp -implicitDefEqProofs [*]))
   exact Next.intro (n + 1) ⟨by omega, by omega, h3⟩ (by omega) (by simp) q5q
  ·have h3 := hno.out h
   have h4 : 0 ≤ v := by omega
   subst h3
   clear hst2 hno
   repeat' (first 
    | (with_reducible refine Rets.xcall (hc _) ?_)
    | (with_reducible refine DrawLate.intro [] ?_)
    | (simp -dsimp -implicitDefEqProofs [*]))
   exact .same ⟨rfl, rfl⟩
 ·have hw : w = true := kw.out.2 fun i h => hI.out i (by omega) h
  subst hw
  have hnl2 : ¬ (n : Int) < l.length := by omega
  clear hI kw hg hn hnl
  repeat' (simp -dsimp -implicitDefEqProofs [*])
  exact .same ⟨rfl, rfl⟩
theorem j3r (g : FuncId) (cs : List PV) (p : Int → Bool) (t : Bool) (l : List Int) (hl : l.length ≤ 9223372036854775807) (st : q5d) (hf : ∀ x ∈ l, Rets P g (.int x :: cs) st (.bool (p x))) : Rets P F.q05 [q5k t l, .func (.func g) [] cs] st (.int (k8b p l)) := by
 refine H.q05.view q5m rfl rfl ?_
 repeat' (simp -dsimp -implicitDefEqProofs [*])
 refine q5g (fun n : Nat => [(0, q5k t l), (1, .func (.func g) [] cs), (7, .int l.length), (8, .int n)]) (fun _ => st) (fun n => n ≤ l.length ∧ Hid (∀ j (_ : j < n) (hl : j < l.length), p l[j] = false)) (fun n => l.length - n) 0 ⟨Nat.zero_le _, ⟨fun j hj => absurd hj (by omega)⟩⟩ (by simp) (.refl _) ?_
 rintro n ⟨hn, he2⟩
 by_cases hnl : n < l.length
 ·have hw := q5h (n := n) (by omega)
  have hf1 := hf l[n] (List.getElem_mem hnl)
  have hi : Hid (p l[n] = true → k8b p l = n) := ⟨fun hp => q9n hnl (fun j hj => he2.out j hj (by omega)) hp⟩
  have hno : Hid (p l[n] = false → ∀ j (_ : j < n + 1) (hl : j < l.length), p l[j] = false) := ⟨fun hp j hj hl => if h : j = n then by subst h; exact hp else he2.out j (by omega) hl⟩
  have s0 := q6f l n hnl
  have hn2 : n * 1 < l.length * 1 := by omega
  clear hf he2
  cases hp : p l[n] with
  | true =>
   rw [hp] at hf1
   have e := hi.out hp
   rw [e]
   clear hp hi hno
   repeat' (first 
    | (with_reducible refine Rets.xcall (hf1) ?_)
    | (simp -dsimp -implicitDefEqProofs [*]))
   exact .same ⟨rfl, rfl⟩
  | false =>
   rw [hp] at hf1
   have e : Hid _ := ⟨hno.out hp⟩
   clear hp hi hno
   repeat' (first 
    | (with_reducible refine Rets.xcall (hf1) ?_)
    | (simp -dsimp -implicitDefEqProofs [*]))
   exact Next.intro (n + 1) ⟨by omega, e⟩ (by omega) (by simp) q5q
 ·have e : n = l.length := by omega
  subst e
  have hi : Hid (k8b p l = -1) := ⟨k00 fun j hj => he2.out j hj hj⟩
  rw [hi.out]
  clear hf he2
  repeat' (simp -dsimp -implicitDefEqProofs [*])
  exact .same ⟨rfl, rfl⟩
theorem j0k (g : FuncId) (cs : List PV) (p : Int → Bool) (t : Bool) (l : List Int) (hl : l.length ≤ 9223372036854775807) (st : q5d) (hf : ∀ x ∈ l, Rets P g (.int x :: cs) st (.bool (p x))) : Rets P F.q0n [q5k t l, .func (.func g) [] cs] st (.bool (l.any p)) := by
 have hi := j3r g cs p t l hl st hf
 have e := k6g p l
 rw [← e]
 obtain ⟨v, hv⟩ : ∃ v, v = k8b p l := ⟨_, rfl⟩
 rw [← hv] at hi ⊢
 clear hv e hf
 refine H.q0n.pure q5m rfl rfl ?_
 repeat' (first 
  | (with_reducible refine Rets.xcall (hi) ?_)
  | (simp -dsimp -implicitDefEqProofs [*]))
theorem j0l (g : FuncId) (fs : List PV) (p0 : Nat) (U : TypeId) (w : Bool) (x : Int) (st0 st : q5d) (hp0 : q6w st0 p0) (hs : st = (p0, .arr U [.func (.func g) fs []]) :: st0) (hg : ∀ st, StLe st0 st → Rets P g (fs ++ [.int x]) st (.bool w)) : Rets P F.q2z [.int x, .ptr p0 0] st (.bool (!w)) := by
 subst hs
 refine H.q2z.pure q5m rfl rfl ?_
 have hg1 := hg ((p0, .arr U [.func (.func g) fs []]) :: st0) (.fresh hp0)
 repeat' (first 
  | (with_reducible refine Rets.xcall (hg1) ?_)
  | (simp -dsimp -implicitDefEqProofs [*]))
theorem j3s (g : FuncId) (fs : List PV) (p : Int → Bool) (t : Bool) (l : List Int) (hl : l.length ≤ 9223372036854775807) (st : q5d) (hg : ∀ x ∈ l, ∀ st', StLe st st' → Rets P g (fs ++ [.int x]) st' (.bool (p x))) : Rets P F.q38 [q5k t l, .func (.func g) fs []] st (.bool (l.all p)) := by
 refine H.q38.pure q5m rfl rfl ?_
 repeat' (first 
  | (with_reducible refine Fresh.intro fun b hb => ?_) <;> (try simp -dsimp -implicitDefEqProofs [*] at hb)
  | (simp -dsimp -implicitDefEqProofs [*]))
 have hc := j0k F.q2z [.ptr b 0] (fun x => !p x) t l hl ((b, .arr T.funcintbool [.func (.func g) fs []]) :: st) (fun x hx => j0l g fs b _ (p x) x st _ hb rfl (hg x hx))
 have e : (!l.any fun x => !p x) = l.all p := by rw [List.all_eq_not_any_not]
 rw [← e]
 generalize (l.any fun x => !p x) = w at *
 clear hg e
 repeat' (first 
  | (with_reducible refine Rets.xcall (hc) ?_)
  | (simp -dsimp -implicitDefEqProofs [*]))
open Go.Pv
set_option maxRecDepth 100000
set_option maxHeartbeats 4000000
theorem z7j (g : FuncId) (c : Card → Card → Int) (t : Bool) (l : List Card) (hl : l.length ≤ 9223372036854775807) (st : q5d) (hg : ∀ x ∈ l, ∀ y ∈ l, ∀ st, Rets P g [x.pv, y.pv] st (.int (c x y))) : Rets P F.q2d [Card.lst t l, .func (.func g) [] []] st (.bool (q54 c l)) := by
 obtain ⟨w, hw⟩ : ∃ w, w = q54 c l := ⟨_, rfl⟩
 rw [← hw]
 have kw : Hid (w = true ↔ ∀ i (h : i + 1 < l.length), c l[i] l[i + 1] < 0) := ⟨by rw [hw]; exact q75 c l⟩
 clear hw
 refine H.q2d.view q5m rfl rfl ?_
 repeat' (simp -dsimp -implicitDefEqProofs [*])
 refine q5g (fun n : Nat => [(0, Card.lst t l), (1, .func (.func g) [] []), (5, .int n)]) (fun _ => st) (fun n => 1 ≤ n ∧ n ≤ max 1 l.length ∧ Hid (∀ i (_ : i + 1 < n) (h : i + 1 < l.length), c l[i] l[i + 1] < 0)) (fun n => l.length - n) 1 ⟨Nat.le_refl _, by omega, ⟨fun i h => absurd h (by omega)⟩⟩ (by simp) (.refl _) ?_
 rintro n ⟨hn1, hn, hI⟩
 by_cases hnl : n < l.length
 ·obtain ⟨m, rfl⟩ : ∃ m, n = m + 1 := ⟨n - 1, by omega⟩
  have hml : m < l.length := by omega
  have hw := q5h (n := m + 1) (by omega)
  have wk : IntKind.i64.wrap (((m + 1 : Nat) : Int) - 1) = (m : Int) := by rw [q5n (by omega) (by omega)]; omega
  have hc := hg l[m] (List.getElem_mem hml) l[m + 1] (List.getElem_mem hnl)
  have s0 := Card.row_sub l m hml
  have s1 := Card.row_sub l (m + 1) hnl
  have hst : Hid (c l[m] l[m + 1] < 0 → ∀ i (_ : i + 1 < m + 2) (h : i + 1 < l.length), c l[i] l[i + 1] < 0) := ⟨fun h i hi h2 => if e : i = m then by subst e; exact h else hI.out i (by omega) h2⟩
  have hno : Hid (¬ c l[m] l[m + 1] < 0 → w = false) := ⟨fun h => Bool.eq_false_iff.2 fun e => h (kw.out.1 e m hnl)⟩
  obtain ⟨x, hx⟩ : ∃ x, x = l[m] := ⟨_, rfl⟩
  obtain ⟨y, hy⟩ : ∃ y, y = l[m + 1] := ⟨_, rfl⟩
  rw [← hx, ← hy] at hc hst hno
  rw [← hx] at s0
  rw [← hy] at s1
  obtain ⟨v, hv⟩ : ∃ v, v = c x y := ⟨_, rfl⟩
  rw [← hv] at hc hst hno
  obtain ⟨n, hnk⟩ : ∃ n, n = m + 1 := ⟨_, rfl⟩
  have hst2 : Hid (v < 0 → ∀ i (_ : i + 1 < n + 1) (h : i + 1 < l.length), c l[i] l[i + 1] < 0) := ⟨by rw [hnk]; exact hst.out⟩
  rw [← hnk] at hw wk hnl s1 ⊢
  have hn2 : n * 36 < l.length * 36 ∧ m * 36 < l.length * 36 := by omega
  clear hI hg hx hy hv hnk hst kw hn1 hn
  by_cases h : v < 0
  ·have h3 := Hid.mk (hst2.out h)
   clear hst2 hno
   repeat' (first 
    | (with_reducible refine Rets.xcall (hc _) ?_)
    | (with_reducible refine DrawLate.intro [] ?_)
    | (with_reducible refine And.intro (fun h => ?_) ?_) <;> (try (exfalso; omega))
    | (simp -dsimp -implicitDefEqProofs [*]))
   exact Next.intro (n + 1) ⟨by omega, by omega, h3⟩ (by omega) (by simp) q5q
  ·have h3 := hno.out h
   have h4 : 0 ≤ v := by omega
   subst h3
   clear hst2 hno
   repeat' (first 
    | (with_reducible refine Rets.xcall (hc _) ?_)
    | (with_reducible refine DrawLate.intro [] ?_)
    | (simp -dsimp -implicitDefEqProofs [*]))
   exact .same ⟨rfl, rfl⟩
 ·have hw : w = true := kw.out.2 fun i h => hI.out i (by omega) h
  subst hw
  have hnl2 : ¬ (n : Int) < l.length := by omega
  clear hI kw hg hn hnl
  repeat' (simp -dsimp -implicitDefEqProofs [*])
  exact .same ⟨rfl, rfl⟩
theorem j3t (g : FuncId) (cs : List PV) (p : Card → Bool) (t : Bool) (l : List Card) (hl : l.length ≤ 9223372036854775807) (st : q5d) (hf : ∀ x ∈ l, Rets P g (x.pv :: cs) st (.bool (p x))) : Rets P F.q0v [Card.lst t l, .func (.func g) [] cs] st (.int (k8b p l)) := by
 refine H.q0v.view q5m rfl rfl ?_
 repeat' (simp -dsimp -implicitDefEqProofs [*])
 refine q5g (fun n : Nat => [(0, Card.lst t l), (1, .func (.func g) [] cs), (7, .int l.length), (8, .int n)]) (fun _ => st) (fun n => n ≤ l.length ∧ Hid (∀ j (_ : j < n) (hl : j < l.length), p l[j] = false)) (fun n => l.length - n) 0 ⟨Nat.zero_le _, ⟨fun j hj => absurd hj (by omega)⟩⟩ (by simp) (.refl _) ?_
 rintro n ⟨hn, he2⟩
 by_cases hnl : n < l.length
 ·have hw := q5h (n := n) (by omega)
  have hf1 := hf l[n] (List.getElem_mem hnl)
  have hi : Hid (p l[n] = true → k8b p l = n) := ⟨fun hp => q9n hnl (fun j hj => he2.out j hj (by omega)) hp⟩
  have hno : Hid (p l[n] = false → ∀ j (_ : j < n + 1) (hl : j < l.length), p l[j] = false) := ⟨fun hp j hj hl => if h : j = n then by subst h; exact hp else he2.out j (by omega) hl⟩
  have s0 := Card.row_sub l n hnl
  have hn2 : n * 36 < l.length * 36 := by omega
  clear hf he2
  cases hp : p l[n] with
  | true =>
   rw [hp] at hf1
   have e := hi.out hp
   rw [e]
   clear hp hi hno
   repeat' (first 
    | (with_reducible refine Rets.xcall (hf1) ?_)
    | (simp -dsimp -implicitDefEqProofs [*]))
   exact .same ⟨rfl, rfl⟩
  | false =>
   rw [hp] at hf1
   have e : Hid _ := ⟨hno.out hp⟩
   clear hp hi hno
   repeat' (first 
    | (with_reducible refine Rets.xcall (hf1) ?_)
    | (simp -dsimp -implicitDefEqProofs [*]))
   exact Next.intro (n + 1) ⟨by omega, e⟩ (by omega) (by simp) q5q
 ·have e : n = l.length := by omega
  subst e
  have hi : Hid (k8b p l = -1) := ⟨k00 fun j hj => he2.out j hj hj⟩
  rw [hi.out]
  clear hf he2
  repeat' (simp -dsimp -implicitDefEqProofs [*])
  exact .same ⟨rfl, rfl⟩
theorem j0m (g : FuncId) (cs : List PV) (p : Card → Bool) (t : Bool) (l : List Card) (hl : l.length ≤ 9223372036854775807) (st : q5d) (hf : ∀ x ∈ l, Rets P g (x.pv :: cs) st (.bool (p x))) : Rets P F.q0p [Card.lst t l, .func (.func g) [] cs] st (.bool (l.any p)) := by
 have hi := j3t g cs p t l hl st hf
 have e := k6g p l
 rw [← e]
 obtain ⟨v, hv⟩ : ∃ v, v = k8b p l := ⟨_, rfl⟩
 rw [← hv] at hi ⊢
 clear hv e hf
 refine H.q0p.pure q5m rfl rfl ?_
 repeat' (first 
  | (with_reducible refine Rets.xcall (hi) ?_)
  | (simp -dsimp -implicitDefEqProofs [*]))
theorem j0n (g : FuncId) (fs : List PV) (p0 : Nat) (U : TypeId) (w : Bool) (x : Card) (st0 st : q5d) (hp0 : q6w st0 p0) (hs : st = (p0, .arr U [.func (.func g) fs []]) :: st0) (hg : ∀ st, StLe st0 st → Rets P g (fs ++ [x.pv]) st (.bool w)) : Rets P F.q1n [x.pv, .ptr p0 0] st (.bool (!w)) := by
 subst hs
 refine H.q1n.pure q5m rfl rfl ?_
 repeat' (first 
  | (with_reducible refine Fresh.intro fun b hb => ?_) <;> (try simp -dsimp -implicitDefEqProofs [*] at hb)
  | (simp -dsimp -implicitDefEqProofs [*]))
 have hg1 := hg ((b, .arr T.apiSealed x.enc) :: (p0, .arr U [.func (.func g) fs []]) :: st0) (.trans (.fresh hp0) (.fresh (by simp [*])))
 repeat' (first 
  | (with_reducible refine Rets.xcall (hg1) ?_)
  | (simp -dsimp -implicitDefEqProofs [*]))
theorem j3u (g : FuncId) (fs : List PV) (p : Card → Bool) (t : Bool) (l : List Card) (hl : l.length ≤ 9223372036854775807) (st : q5d) (hg : ∀ x ∈ l, ∀ st', StLe st st' → Rets P g (fs ++ [x.pv]) st' (.bool (p x))) : Rets P F.q2p [Card.lst t l, .func (.func g) fs []] st (.bool (l.all p)) := by
 refine H.q2p.pure q5m rfl rfl ?_
 repeat' (first 
  | (with_reducible refine Fresh.intro fun b hb => ?_) <;> (try simp -dsimp -implicitDefEqProofs [*] at hb)
  | (simp -dsimp -implicitDefEqProofs [*]))
 have hc := j0m F.q1n [.ptr b 0] (fun x => !p x) t l hl ((b, .arr T.q49 [.func (.func g) fs []]) :: st) (fun x hx => j0n g fs b _ (p x) x st _ hb rfl (hg x hx))
 have e : (!l.any fun x => !p x) = l.all p := by rw [List.all_eq_not_any_not]
 rw [← e]
 generalize (l.any fun x => !p x) = w at *
 clear hg e
 repeat' (first 
  | (with_reducible refine Rets.xcall (hc) ?_)
  | (simp -dsimp -implicitDefEqProofs [*]))
open Go.Pv
set_option maxRecDepth 100000
set_option maxHeartbeats 4000000
theorem z7k (g : FuncId) (c : Sh → Sh → Int) (t : Bool) (l : List Sh) (hl : l.length ≤ 9223372036854775807) (st : q5d) (hg : ∀ x ∈ l, ∀ y ∈ l, ∀ st, Rets P g [x.pv, y.pv] st (.int (c x y))) : Rets P F.q16 [Sh.lst t l, .func (.func g) [] []] st (.bool (q54 c l)) := by
 obtain ⟨w, hw⟩ : ∃ w, w = q54 c l := ⟨_, rfl⟩
 rw [← hw]
 have kw : Hid (w = true ↔ ∀ i (h : i + 1 < l.length), c l[i] l[i + 1] < 0) := ⟨by rw [hw]; exact q75 c l⟩
 clear hw
 refine H.q16.view q5m rfl rfl ?_
 repeat' (simp -dsimp -implicitDefEqProofs [*])
 refine q5g (fun n : Nat => [(0, Sh.lst t l), (1, .func (.func g) [] []), (5, .int n)]) (fun _ => st) (fun n => 1 ≤ n ∧ n ≤ max 1 l.length ∧ Hid (∀ i (_ : i + 1 < n) (h : i + 1 < l.length), c l[i] l[i + 1] < 0)) (fun n => l.length - n) 1 ⟨Nat.le_refl _, by omega, ⟨fun i h => absurd h (by omega)⟩⟩ (by simp) (.refl _) ?_
 rintro n ⟨hn1, hn, hI⟩
 by_cases hnl : n < l.length
 ·obtain ⟨m, rfl⟩ : ∃ m, n = m + 1 := ⟨n - 1, by omega⟩
  have hml : m < l.length := by omega
  have hw := q5h (n := m + 1) (by omega)
  have wk : IntKind.i64.wrap (((m + 1 : Nat) : Int) - 1) = (m : Int) := by rw [q5n (by omega) (by omega)]; omega
  have hc := hg l[m] (List.getElem_mem hml) l[m + 1] (List.getElem_mem hnl)
  have s0 := Sh.row_sub l m hml
  have s1 := Sh.row_sub l (m + 1) hnl
  have hst : Hid (c l[m] l[m + 1] < 0 → ∀ i (_ : i + 1 < m + 2) (h : i + 1 < l.length), c l[i] l[i + 1] < 0) := ⟨fun h i hi h2 => if e : i = m then by subst e; exact h else hI.out i (by omega) h2⟩
  have hno : Hid (¬ c l[m] l[m + 1] < 0 → w = false) := ⟨fun h => Bool.eq_false_iff.2 fun e => h (kw.out.1 e m hnl)⟩
  obtain ⟨x, hx⟩ : ∃ x, x = l[m] := ⟨_, rfl⟩
  obtain ⟨y, hy⟩ : ∃ y, y = l[m + 1] := ⟨_, rfl⟩
  rw [← hx, ← hy] at hc hst hno
  rw [← hx] at s0
  rw [← hy] at s1
  obtain ⟨v, hv⟩ : ∃ v, v = c x y := ⟨_, rfl⟩
  rw [← hv] at hc hst hno
  obtain ⟨n, hnk⟩ : ∃ n, n = m + 1 := ⟨_, rfl⟩
  have hst2 : Hid (v < 0 → ∀ i (_ : i + 1 < n + 1) (h : i + 1 < l.length), c l[i] l[i + 1] < 0) := ⟨by rw [hnk]; exact hst.out⟩
  rw [← hnk] at hw wk hnl s1 ⊢
  have hn2 : n * 4 < l.length * 4 ∧ m * 4 < l.length * 4 := by omega
  clear hI hg hx hy hv hnk hst kw hn1 hn
  by_cases h : v < 0
  ·have h3 := Hid.mk (hst2.out h)
   clear hst2 hno
   repeat' (first 
    | (with_reducible refine Rets.xcall (hc _) ?_)
    | (with_reducible refine DrawLate.intro [] ?_)
    | (with_reducible refine And.intro (fun h => ?_) ?_) <;> (try (exfalso; omega))
    | (simp -dsimp -implicitDefEqProofs [*]))
   exact Next.intro (n + 1) ⟨by omega, by omega, h3⟩ (by omega) (by simp) q5q
  ·have h3 := hno.out h
   have h4 : 0 ≤ v := by omega
   subst h3
   clear hst2 hno
   repeat' (first 
    | (with_reducible refine Rets.xcall (hc _) ?_)
    | (with_reducible refine DrawLate.intro [] ?_)
    | (simp -dsimp -implicitDefEqProofs [*]))
   exact .same ⟨rfl, rfl⟩
 ·have hw : w = true := kw.out.2 fun i h => hI.out i (by omega) h
  subst hw
  have hnl2 : ¬ (n : Int) < l.length := by omega
  clear hI kw hg hn hnl
  repeat' (simp -dsimp -implicitDefEqProofs [*])
  exact .same ⟨rfl, rfl⟩
theorem j3v (g : FuncId) (cs : List PV) (p : Sh → Bool) (t : Bool) (l : List Sh) (hl : l.length ≤ 9223372036854775807) (st : q5d) (hf : ∀ x ∈ l, Rets P g (x.pv :: cs) st (.bool (p x))) : Rets P F.q0m [Sh.lst t l, .func (.func g) [] cs] st (.int (k8b p l)) := by
 refine H.q0m.view q5m rfl rfl ?_
 repeat' (simp -dsimp -implicitDefEqProofs [*])
 refine q5g (fun n : Nat => [(0, Sh.lst t l), (1, .func (.func g) [] cs), (7, .int l.length), (8, .int n)]) (fun _ => st) (fun n => n ≤ l.length ∧ Hid (∀ j (_ : j < n) (hl : j < l.length), p l[j] = false)) (fun n => l.length - n) 0 ⟨Nat.zero_le _, ⟨fun j hj => absurd hj (by omega)⟩⟩ (by simp) (.refl _) ?_
 rintro n ⟨hn, he2⟩
 by_cases hnl : n < l.length
 ·have hw := q5h (n := n) (by omega)
  have hf1 := hf l[n] (List.getElem_mem hnl)
  have hi : Hid (p l[n] = true → k8b p l = n) := ⟨fun hp => q9n hnl (fun j hj => he2.out j hj (by omega)) hp⟩
  have hno : Hid (p l[n] = false → ∀ j (_ : j < n + 1) (hl : j < l.length), p l[j] = false) := ⟨fun hp j hj hl => if h : j = n then by subst h; exact hp else he2.out j (by omega) hl⟩
  have s0 := Sh.row_sub l n hnl
  have hn2 : n * 4 < l.length * 4 := by omega
  clear hf he2
  cases hp : p l[n] with
  | true =>
   rw [hp] at hf1
   have e := hi.out hp
   rw [e]
   clear hp hi hno
   repeat' (first 
    | (with_reducible refine Rets.xcall (hf1) ?_)
    | (simp -dsimp -implicitDefEqProofs [*]))
   exact .same ⟨rfl, rfl⟩
  | false =>
   rw [hp] at hf1
   have e : Hid _ := ⟨hno.out hp⟩
   clear hp hi hno
   repeat' (first 
    | (with_reducible refine Rets.xcall (hf1) ?_)
    | (simp -dsimp -implicitDefEqProofs [*]))
   exact Next.intro (n + 1) ⟨by omega, e⟩ (by omega) (by simp) q5q
 ·have e : n = l.length := by omega
  subst e
  have hi : Hid (k8b p l = -1) := ⟨k00 fun j hj => he2.out j hj hj⟩
  rw [hi.out]
  clear hf he2
  repeat' (simp -dsimp -implicitDefEqProofs [*])
  exact .same ⟨rfl, rfl⟩
theorem j0o (g : FuncId) (cs : List PV) (p : Sh → Bool) (t : Bool) (l : List Sh) (hl : l.length ≤ 9223372036854775807) (st : q5d) (hf : ∀ x ∈ l, Rets P g (x.pv :: cs) st (.bool (p x))) : Rets P F.q0i [Sh.lst t l, .func (.func g) [] cs] st (.bool (l.any p)) := by
 have hi := j3v g cs p t l hl st hf
 have e := k6g p l
 rw [← e]
 obtain ⟨v, hv⟩ : ∃ v, v = k8b p l := ⟨_, rfl⟩
 rw [← hv] at hi ⊢
 clear hv e hf
 refine H.q0i.pure q5m rfl rfl ?_
 repeat' (first 
  | (with_reducible refine Rets.xcall (hi) ?_)
  | (simp -dsimp -implicitDefEqProofs [*]))
theorem j0p (g : FuncId) (fs : List PV) (p0 : Nat) (U : TypeId) (w : Bool) (x : Sh) (st0 st : q5d) (hp0 : q6w st0 p0) (hs : st = (p0, .arr U [.func (.func g) fs []]) :: st0) (hg : ∀ st, StLe st0 st → Rets P g (fs ++ [x.pv]) st (.bool w)) : Rets P F.q1c [x.pv, .ptr p0 0] st (.bool (!w)) := by
 subst hs
 refine H.q1c.pure q5m rfl rfl ?_
 repeat' (first 
  | (with_reducible refine Fresh.intro fun b hb => ?_) <;> (try simp -dsimp -implicitDefEqProofs [*] at hb)
  | (simp -dsimp -implicitDefEqProofs [*]))
 have hg1 := hg ((b, .arr T.apiKeyShare x.enc) :: (p0, .arr U [.func (.func g) fs []]) :: st0) (.trans (.fresh hp0) (.fresh (by simp [*])))
 repeat' (first 
  | (with_reducible refine Rets.xcall (hg1) ?_)
  | (simp -dsimp -implicitDefEqProofs [*]))
theorem j3w (g : FuncId) (fs : List PV) (p : Sh → Bool) (t : Bool) (l : List Sh) (hl : l.length ≤ 9223372036854775807) (st : q5d) (hg : ∀ x ∈ l, ∀ st', StLe st st' → Rets P g (fs ++ [x.pv]) st' (.bool (p x))) : Rets P F.q2e [Sh.lst t l, .func (.func g) fs []] st (.bool (l.all p)) := by
 refine H.q2e.pure q5m rfl rfl ?_
 repeat' (first 
  | (with_reducible refine Fresh.intro fun b hb => ?_) <;> (try simp -dsimp -implicitDefEqProofs [*] at hb)
  | (simp -dsimp -implicitDefEqProofs [*]))
 have hc := j0o F.q1c [.ptr b 0] (fun x => !p x) t l hl ((b, .arr T.q5a [.func (.func g) fs []]) :: st) (fun x hx => j0p g fs b _ (p x) x st _ hb rfl (hg x hx))
 have e : (!l.any fun x => !p x) = l.all p := by rw [List.all_eq_not_any_not]
 rw [← e]
 generalize (l.any fun x => !p x) = w at *
 clear hg e
 repeat' (first 
  | (with_reducible refine Rets.xcall (hc) ?_)
  | (simp -dsimp -implicitDefEqProofs [*]))
end Go.Proofs.YtnooplpbpfiapaaGreatDoor
