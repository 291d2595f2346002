/- Sessions: what is right, plain. -/
import Derived.Test.YtnooplpbpfiapaaGreatDoorG36A
namespace Go.Proofs.YtnooplpbpfiapaaGreatDoor
open Go.Pv
set_option maxRecDepth 100000
theorem q74 {a b : Int} : k1h a b < 0 ↔ a < b := by unfold k1h; split <;> (try split) <;> omega
theorem cmpI_eq {a b : Int} : k1h a b = 0 ↔ a = b := by unfold k1h; split <;> (try split) <;> omega
theorem z3p {a b : Int} : 0 < k1h a b ↔ b < a := by unfold k1h; split <;> (try split) <;> omega
theorem q9s {x y : Sh} : q98 x y < 0 ↔ x.o < y.o ∨ x.o = y.o ∧ (x.c < y.c ∨ x.c = y.c ∧ x.h < y.h) := by
 unfold q98 or3 k1h
 split <;> split <;> (try split) <;> (try split) <;> (try split) <;> (try split) <;> (try split) <;> omega
theorem z7f {x y : Sh} : q98 x y = 0 ↔ x.o = y.o ∧ x.c = y.c ∧ x.h = y.h := by
 unfold q98 or3 k1h
 split <;> split <;> (try split) <;> (try split) <;> (try split) <;> (try split) <;> (try split) <;> omega
section
variable {α : Type}
theorem q80 {c : α → α → Int} (ht : ∀ x y z, c x y < 0 → c y z < 0 → c x z < 0) {l : List α} (h : q53 c l = true) : l.Pairwise fun x y => c x y < 0 := by
 rw [q72] at h
 refine List.pairwise_iff_getElem.2 fun i j hi hj hij => ?_
 induction j with
 | zero => omega
 | succ j ih =>
  by_cases e : i = j
  ·subst e; exact h i hj
  ·exact ht _ _ _ (ih (by omega) (by omega)) (h j hj)
theorem k9x {c : α → α → Int} {l : List α} (h : l.Pairwise fun x y => c x y < 0) : q53 c l = true :=
 (q72 c l).2 fun i hi => List.pairwise_iff_getElem.1 h i (i + 1) (by omega) hi (by omega)
structure FallsS (d : α → Int) (l : List α) : Prop where
 out : ∀ a b, a < b → ∀ (h : b < l.length), d l[b] ≤ 0 → ∀ {h' : a < l.length}, d l[a] < 0
theorem FallsS.weak {d : α → Int} {l : List α} (h : FallsS d l) : Falls d l := ⟨fun a b hab hb hn ha => h.out a b hab hb (by omega)⟩
theorem z3q {c : α → α → Int} {d : α → Int} (hd : ∀ x y, c x y < 0 → d y ≤ 0 → d x < 0) {l : List α} (h : l.Pairwise fun x y => c x y < 0) : FallsS d l :=
 ⟨fun a b hab hb hn ha => hd _ _ (List.pairwise_iff_getElem.1 h a b ha hb hab) hn⟩
end
abbrev cJ (x y : Card) : Int := k1h x.j y.j
abbrev nJ (x y : Shn) : Int := k1h x.j y.j
theorem z3r (x y z : Card) (h : cJ x y < 0) (k : cJ y z < 0) : cJ x z < 0 := by
 rw [q74] at *; omega
theorem z3s (x y z : Shn) (h : nJ x y < 0) (k : nJ y z < 0) : nJ x z < 0 := by
 rw [q74] at *; omega
theorem k16 (x y z : Sh) (h : q98 x y < 0) (k : q98 y z < 0) : q98 x z < 0 := by
 rw [q9s] at *; omega
def q8r (s : Ses) (j : Int) : Option Card := s.sealed.find? fun x => decide (x.j = j)
def q99 (s : Ses) (j : Int) : Option Shn := s.shown.find? fun x => decide (x.j = j)
section
variable {α : Type}
theorem found {d : α → Int} {l : List α} (hf : FallsS d l) : (k8n d l = true → ∃ h : k0m d l < l.length, l.find? (fun x => decide (d x = 0)) = some l[k0m d l]) ∧ (k8n d l = false → l.find? (fun x => decide (d x = 0)) = none) := by
 have hlow : ∀ k, k < k0m d l → ∀ h : k < l.length, d l[k] < 0 := fun k hk h => by
  have := List.not_of_lt_findIdx hk
  simpa using this
 constructor
 ·intro h
  unfold k8n at h
  split at h
  ·rename_i hl
   refine ⟨hl, ?_⟩
   rw [List.find?_eq_some_iff_getElem]
   refine ⟨h, k0m d l, hl, rfl, fun j hj => ?_⟩
   have := hlow j hj (by omega)
   simp
   omega
  ·cases h
 ·intro h
  rw [List.find?_eq_none]
  intro x hx
  obtain ⟨k, hk, rfl⟩ := List.mem_iff_getElem.1 hx
  have hup : k0m d l ≤ k → k0m d l < l.length := fun h2 => by omega
  simp only [decide_eq_true_eq]
  intro e
  rcases Nat.lt_or_ge k (k0m d l) with h1 | h1
  ·have := hlow k h1 hk; omega
  ·have hl := hup h1
   unfold k8n at h
   rw [dif_pos hl] at h
   have h2 : ¬ d l[k0m d l] = 0 := of_decide_eq_false h
   have h3 : 0 ≤ d l[k0m d l] := by
    exact of_decide_eq_true (List.findIdx_getElem (p := fun x => decide (0 ≤ d x)) (xs := l) (w := hl))
   rcases Nat.lt_or_ge (k0m d l) k with h4 | h4
   ·have h5 := hf.out (k0m d l) k h4 hk (by omega) (h' := hl)
    omega
   ·have : k = k0m d l := by omega
    subst this
    exact h2 e
end
def k9y {α : Type} (d : α → Int) (sm : α → Bool) (l : List α) (x : α) : Option (List α) := if k8n d l = true then (match l[k0m d l]? with
 | some y => if sm y = true then some l else none
 | none => none) else some (ins l (k0m d l) x)
theorem z3t {α : Type} {d : α → Int} {l : List α} : k0m d l ≤ l.length := List.findIdx_le_length
theorem k48 {α : Type} {d : α → Int} {l : List α} (h : k8n d l = true) : k0m d l < l.length := by
 unfold k8n at h
 split at h
 ·rename_i h1; exact h1
 ·cases h
theorem k66 {l : List Card} (h : q53 cJ l = true) (n : Int) : FallsS (fun x => k1h x.j n) l :=
 z3q (c := cJ) (fun x y h1 h2 => by
  have a := q74.1 h1
  have b : ¬ n < y.j := fun h => by have := z3p.2 h; omega
  exact q74.2 (by omega)) (q80 z3r h)
theorem k49 {l : List Shn} (h : q53 nJ l = true) (n : Int) : FallsS (fun x => k1h x.j n) l :=
 z3q (c := nJ) (fun x y h1 h2 => by
  have a := q74.1 h1
  have b : ¬ n < y.j := fun h => by have := z3p.2 h; omega
  exact q74.2 (by omega)) (q80 z3s h)
theorem k9z {l : List Sh} (h : q53 q98 l = true) (y : Sh) : FallsS (fun x => q98 x y) l :=
 z3q (c := q98) (fun x z h1 h2 => by
  by_cases e : q98 z y = 0
  ·have := z7f.1 e
   rw [q9s] at h1 ⊢
   omega
  ·exact k16 _ _ _ h1 (by omega)) (q80 k16 h)
theorem j3t (s : Ses) (j : Int) : q8r s j = s.sealed.find? fun x => decide (k1h x.j j = 0) := by
 unfold q8r
 congr 1
 funext x
 exact decide_eq_decide.2 cmpI_eq.symm
theorem j0r (s : Ses) (j : Int) : q99 s j = s.shown.find? fun x => decide (k1h x.j j = 0) := by
 unfold q99
 congr 1
 funext x
 exact decide_eq_decide.2 cmpI_eq.symm
def q8l (s : Ses) (x : Card) : Bool := chk x.r x.e x.j x.c && decide (x.r = s.round) && decide (x.e = s.entry) && decide (x.j ∈ s.judges) && decide ((x.c.length : Int) = s.crits)
def q7d (s : Ses) (x : Sh) : Bool := decide (x.o ∈ s.judges) && decide (x.h ∈ s.judges) && decide (x.o ≠ x.h) && wiL x.c s.crits && wiL x.v 1073741789
def q8s (y : Card) (x : Shn) : Option (List Int) := k4c y.r y.e y.j y.c y.d.1 x.k x.s.1
def q75 (s : Ses) (x : Shn) : Bool := match q8r s x.j with
 | none => false
 | some y => (q8s y x).isSome
def k03 (s : Ses) : Bool := wiL s.round 8 && wiL s.entry 4096 && wiL (s.crits - 1) 64 && wiL ((s.judges.length : Int) - 1) 24 && wiL (s.need - 1) s.judges.length && wiL s.deadline 2097152 && wiL s.time 2097152
def q67 (s : Ses) : Bool :=
 k03 s && ((q53 k1h s.judges && s.judges.all fun n => wiL n 256) && ((q53 cJ s.sealed && s.sealed.all (q8l s)) && ((q53 q98 s.keys && s.keys.all (q7d s)) && ((q53 nJ s.shown && s.shown.all (q75 s)) && (q8j s || decide ((s.keys.length : Int) + s.shown.length = 0))))))
structure Ses.Len (s : Ses) : Prop where
 judges : s.judges.length ≤ 100000
 sealed : s.sealed.length ≤ 1024
 keys : s.keys.length ≤ 1024
 shown : s.shown.length ≤ 1024
 cards : ∀ x ∈ s.sealed, x.c.length ≤ 100000
 given : ∀ x ∈ s.shown, x.k.length ≤ 100000
 crits : -9223372036854775808 ≤ s.crits ∧ s.crits < 9223372036854775808
 need : -9223372036854775808 ≤ s.need ∧ s.need < 9223372036854775808
theorem z3u {n m : Int} (h1 : -9223372036854775808 ≤ n) (h2 : n < 9223372036854775808) (hm : m ≤ 4611686018427387904) : wiL (IntKind.i64.wrap (n - 1)) m = wiL (n - 1) m := by
 by_cases e : n = -9223372036854775808
 ·subst e
  have e1 : IntKind.i64.wrap (-9223372036854775808 - 1) = 9223372036854775807 := by decide
  rw [e1]
  unfold wiL
  rw [decide_eq_false (show ¬ (9223372036854775807 : Int) < m by omega), decide_eq_false (show ¬ (0 : Int) ≤ -9223372036854775808 - 1 by decide), Bool.and_false, Bool.false_and]
 ·rw [q5m (by omega) (by omega)]
open Go.Pv
set_option maxRecDepth 100000
set_option maxHeartbeats 4000000
theorem z7g (g : FuncId) (c : Int → Int → Int) (t : Bool) (l : List Int) (hl : l.length ≤ 9223372036854775807) (st : q5d) (hg : ∀ x ∈ l, ∀ y ∈ l, ∀ st, Rets P g [.int x, .int y] st (.int (c x y))) : Rets P F.q3t [q5k t l, .func (.func g) [] []] st (.bool (q53 c l)) := by
 obtain ⟨w, hw⟩ : ∃ w, w = q53 c l := ⟨_, rfl⟩
 rw [← hw]
 have kw : Hid (w = true ↔ ∀ i (h : i + 1 < l.length), c l[i] l[i + 1] < 0) := ⟨by rw [hw]; exact q72 c l⟩
 clear hw
 refine H.q3t.view q5n rfl rfl ?_
 repeat' (simp -dsimp -implicitDefEqProofs [*])
 refine q5g (fun n : Nat => [(0, q5k t l), (1, .func (.func g) [] []), (5, .int n)]) (fun _ => st) (fun n => 1 ≤ n ∧ n ≤ max 1 l.length ∧ Hid (∀ i (_ : i + 1 < n) (h : i + 1 < l.length), c l[i] l[i + 1] < 0)) (fun n => l.length - n) 1 ⟨Nat.le_refl _, by omega, ⟨fun i h => absurd h (by omega)⟩⟩ (by simp) (.refl _) ?_
 rintro n ⟨hn1, hn, hI⟩
 by_cases hnl : n < l.length
 ·obtain ⟨m, rfl⟩ : ∃ m, n = m + 1 := ⟨n - 1, by omega⟩
  have hml : m < l.length := by omega
  have hw := q5h (n := m + 1) (by omega)
  have wk : IntKind.i64.wrap (((m + 1 : Nat) : Int) - 1) = (m : Int) := by rw [q5m (by omega) (by omega)]; omega
  have hc := hg l[m] (List.getElem_mem hml) l[m + 1] (List.getElem_mem hnl)
  have s0 := q6d l m hml
  have s1 := q6d l (m + 1) hnl
  have E0 : ∀ h, (q6j l)[m]'h = .int l[m] := fun h => q9n l m h
  have E1 : ∀ h, (q6j l)[m + 1]'h = .int l[m + 1] := fun h => q9n l (m + 1) h
  have hst : Hid (c l[m] l[m + 1] < 0 → ∀ i (_ : i + 1 < m + 2) (h : i + 1 < l.length), c l[i] l[i + 1] < 0) := ⟨fun h i hi h2 => if e : i = m then by subst e; exact h else hI.out i (by omega) h2⟩
  have hno : Hid (¬ c l[m] l[m + 1] < 0 → w = false) := ⟨fun h => Bool.eq_false_iff.2 fun e => h (kw.out.1 e m hnl)⟩
  obtain ⟨x, hx⟩ : ∃ x, x = l[m] := ⟨_, rfl⟩
  obtain ⟨y, hy⟩ : ∃ y, y = l[m + 1] := ⟨_, rfl⟩
  rw [← hx, ← hy] at hc hst hno
  rw [← hx] at s0 E0
  rw [← hy] at s1 E1
  obtain ⟨v, hv⟩ : ∃ v, v = c x y := ⟨_, rfl⟩
  rw [← hv] at hc hst hno
  obtain ⟨n, hnk⟩ : ∃ n, n = m + 1 := ⟨_, rfl⟩
  have hst2 : Hid (v < 0 → ∀ i (_ : i + 1 < n + 1) (h : i + 1 < l.length), c l[i] l[i + 1] < 0) := ⟨by rw [hnk]; exact hst.out⟩
  rw [← hnk] at hw wk hnl s1 E1 ⊢
  have hn2 : n * 1 < l.length * 1 ∧ m * 1 < l.length * 1 := by omega
  clear hI hg hx hy hv hnk hst kw hn1 hn
  by_cases h : v < 0
  ·have h3 := Hid.mk (hst2.out h)
   clear hst2 hno
   repeat' (first 
    | (with_reducible refine Rets.xcall (hc _) ?_)
    | (with_reducible refine DrawLate.intro [] ?_)
    | (with_reducible refine And.intro (fun h => ?_) ?_) <;> (try (exfalso; omega))
    | (simp -dsimp -implicitDefEqProofs [*]))
   exact Next.intro (n + 1) ⟨by omega, by omega, h3⟩ (by omega) (by simp) q5q
  ·have h3 := hno.out h
   have h4 : 0 ≤ v := by omega
   subst h3
   clear hst2 hno
   repeat' (first 
    | (with_reducible refine Rets.xcall (hc _) ?_)
    | (with_reducible refine DrawLate.intro [] ?_)
    | (simp -dsimp -implicitDefEqProofs [*]))
   exact .same ⟨rfl, rfl⟩
 ·have hw : w = true := kw.out.2 fun i h => hI.out i (by omega) h
  subst hw
  have hnl2 : ¬ (n : Int) < l.length := by omega
  clear hI kw hg hn hnl
  repeat' (simp -dsimp -implicitDefEqProofs [*])
  exact .same ⟨rfl, rfl⟩
theorem j3u (g : FuncId) (cs : List PV) (p : Int → Bool) (t : Bool) (l : List Int) (hl : l.length ≤ 9223372036854775807) (st : q5d) (hf : ∀ x ∈ l, Rets P g (.int x :: cs) st (.bool (p x))) : Rets P F.q04 [q5k t l, .func (.func g) [] cs] st (.int (k7x p l)) := by
 refine H.q04.view q5n rfl rfl ?_
 repeat' (simp -dsimp -implicitDefEqProofs [*])
 refine q5g (fun n : Nat => [(0, q5k t l), (1, .func (.func g) [] cs), (7, .int l.length), (8, .int n)]) (fun _ => st) (fun n => n ≤ l.length ∧ Hid (∀ j (_ : j < n) (hl : j < l.length), p l[j] = false)) (fun n => l.length - n) 0 ⟨Nat.zero_le _, ⟨fun j hj => absurd hj (by omega)⟩⟩ (by simp) (.refl _) ?_
 rintro n ⟨hn, he2⟩
 by_cases hnl : n < l.length
 ·have hw := q5h (n := n) (by omega)
  have hf1 := hf l[n] (List.getElem_mem hnl)
  have hi : Hid (p l[n] = true → k7x p l = n) := ⟨fun hp => q9q hnl (fun j hj => he2.out j hj (by omega)) hp⟩
  have hno : Hid (p l[n] = false → ∀ j (_ : j < n + 1) (hl : j < l.length), p l[j] = false) := ⟨fun hp j hj hl => if h : j = n then by subst h; exact hp else he2.out j (by omega) hl⟩
  have s0 := q6d l n hnl
  have hn2 : n * 1 < l.length * 1 := by omega
  clear hf he2
  cases hp : p l[n] with
  | true =>
   rw [hp] at hf1
   have e := hi.out hp
   rw [e]
   clear hp hi hno
   repeat' (first 
    | (with_reducible refine Rets.xcall (hf1) ?_)
    | (simp -dsimp -implicitDefEqProofs [*]))
   exact .same ⟨rfl, rfl⟩
  | false =>
   rw [hp] at hf1
   have e : Hid _ := ⟨hno.out hp⟩
   clear hp hi hno
   repeat' (first 
    | (with_reducible refine Rets.xcall (hf1) ?_)
    | (simp -dsimp -implicitDefEqProofs [*]))
   exact Next.intro (n + 1) ⟨by omega, e⟩ (by omega) (by simp) q5q
 ·have e : n = l.length := by omega
  subst e
  have hi : Hid (k7x p l = -1) := ⟨k02 fun j hj => he2.out j hj hj⟩
  rw [hi.out]
  clear hf he2
  repeat' (simp -dsimp -implicitDefEqProofs [*])
  exact .same ⟨rfl, rfl⟩
theorem j0s (g : FuncId) (cs : List PV) (p : Int → Bool) (t : Bool) (l : List Int) (hl : l.length ≤ 9223372036854775807) (st : q5d) (hf : ∀ x ∈ l, Rets P g (.int x :: cs) st (.bool (p x))) : Rets P F.q0n [q5k t l, .func (.func g) [] cs] st (.bool (l.any p)) := by
 have hi := j3u g cs p t l hl st hf
 have e := k6g p l
 rw [← e]
 obtain ⟨v, hv⟩ : ∃ v, v = k7x p l := ⟨_, rfl⟩
 rw [← hv] at hi ⊢
 clear hv e hf
 refine H.q0n.pure q5n rfl rfl ?_
 repeat' (first 
  | (with_reducible refine Rets.xcall (hi) ?_)
  | (simp -dsimp -implicitDefEqProofs [*]))
theorem j0t (g : FuncId) (fs : List PV) (p0 : Nat) (U : TypeId) (w : Bool) (x : Int) (st0 st : q5d) (hp0 : q6u st0 p0) (hs : st = (p0, .arr U [.func (.func g) fs []]) :: st0) (hg : ∀ st, StLe st0 st → Rets P g (fs ++ [.int x]) st (.bool w)) : Rets P F.q20 [.int x, .ptr p0 0] st (.bool (!w)) := by
 subst hs
 refine H.q20.pure q5n rfl rfl ?_
 have hg1 := hg ((p0, .arr U [.func (.func g) fs []]) :: st0) (.fresh hp0)
 repeat' (first 
  | (with_reducible refine Rets.xcall (hg1) ?_)
  | (simp -dsimp -implicitDefEqProofs [*]))
theorem j3v (g : FuncId) (fs : List PV) (p : Int → Bool) (t : Bool) (l : List Int) (hl : l.length ≤ 9223372036854775807) (st : q5d) (hg : ∀ x ∈ l, ∀ st', StLe st st' → Rets P g (fs ++ [.int x]) st' (.bool (p x))) : Rets P F.q37 [q5k t l, .func (.func g) fs []] st (.bool (l.all p)) := by
 refine H.q37.pure q5n rfl rfl ?_
 repeat' (first 
  | (with_reducible refine Fresh.intro fun b hb => ?_) <;> (try simp -dsimp -implicitDefEqProofs [*] at hb)
  | (simp -dsimp -implicitDefEqProofs [*]))
 have hc := j0s F.q20 [.ptr b 0] (fun x => !p x) t l hl ((b, .arr T.funcintbool [.func (.func g) fs []]) :: st) (fun x hx => j0t g fs b _ (p x) x st _ hb rfl (hg x hx))
 have e : (!l.any fun x => !p x) = l.all p := by rw [List.all_eq_not_any_not]
 rw [← e]
 generalize (l.any fun x => !p x) = w at *
 clear hg e
 repeat' (first 
  | (with_reducible refine Rets.xcall (hc) ?_)
  | (simp -dsimp -implicitDefEqProofs [*]))
open Go.Pv
set_option maxRecDepth 100000
set_option maxHeartbeats 4000000
theorem z7h (g : FuncId) (c : Card → Card → Int) (t : Bool) (l : List Card) (hl : l.length ≤ 9223372036854775807) (st : q5d) (hg : ∀ x ∈ l, ∀ y ∈ l, ∀ st, Rets P g [x.pv, y.pv] st (.int (c x y))) : Rets P F.q19 [Card.lst t l, .func (.func g) [] []] st (.bool (q53 c l)) := by
 obtain ⟨w, hw⟩ : ∃ w, w = q53 c l := ⟨_, rfl⟩
 rw [← hw]
 have kw : Hid (w = true ↔ ∀ i (h : i + 1 < l.length), c l[i] l[i + 1] < 0) := ⟨by rw [hw]; exact q72 c l⟩
 clear hw
 refine H.q19.view q5n rfl rfl ?_
 repeat' (simp -dsimp -implicitDefEqProofs [*])
 refine q5g (fun n : Nat => [(0, Card.lst t l), (1, .func (.func g) [] []), (5, .int n)]) (fun _ => st) (fun n => 1 ≤ n ∧ n ≤ max 1 l.length ∧ Hid (∀ i (_ : i + 1 < n) (h : i + 1 < l.length), c l[i] l[i + 1] < 0)) (fun n => l.length - n) 1 ⟨Nat.le_refl _, by omega, ⟨fun i h => absurd h (by omega)⟩⟩ (by simp) (.refl _) ?_
 rintro n ⟨hn1, hn, hI⟩
 by_cases hnl : n < l.length
 ·obtain ⟨m, rfl⟩ : ∃ m, n = m + 1 := ⟨n - 1, by omega⟩
  have hml : m < l.length := by omega
  have hw := q5h (n := m + 1) (by omega)
  have wk : IntKind.i64.wrap (((m + 1 : Nat) : Int) - 1) = (m : Int) := by rw [q5m (by omega) (by omega)]; omega
  have hc := hg l[m] (List.getElem_mem hml) l[m + 1] (List.getElem_mem hnl)
  have s0 := Card.row_sub l m hml
  have s1 := Card.row_sub l (m + 1) hnl
  have hst : Hid (c l[m] l[m + 1] < 0 → ∀ i (_ : i + 1 < m + 2) (h : i + 1 < l.length), c l[i] l[i + 1] < 0) := ⟨fun h i hi h2 => if e : i = m then by subst e; exact h else hI.out i (by omega) h2⟩
  have hno : Hid (¬ c l[m] l[m + 1] < 0 → w = false) := ⟨fun h => Bool.eq_false_iff.2 fun e => h (kw.out.1 e m hnl)⟩
  obtain ⟨x, hx⟩ : ∃ x, x = l[m] := ⟨_, rfl⟩
  obtain ⟨y, hy⟩ : ∃ y, y = l[m + 1] := ⟨_, rfl⟩
  rw [← hx, ← hy] at hc hst hno
  rw [← hx] at s0
  rw [← hy] at s1
  obtain ⟨v, hv⟩ : ∃ v, v = c x y := ⟨_, rfl⟩
  rw [← hv] at hc hst hno
  obtain ⟨n, hnk⟩ : ∃ n, n = m + 1 := ⟨_, rfl⟩
  have hst2 : Hid (v < 0 → ∀ i (_ : i + 1 < n + 1) (h : i + 1 < l.length), c l[i] l[i + 1] < 0) := ⟨by rw [hnk]; exact hst.out⟩
  rw [← hnk] at hw wk hnl s1 ⊢
  have hn2 : n * 36 < l.length * 36 ∧ m * 36 < l.length * 36 := by omega
  clear hI hg hx hy hv hnk hst kw hn1 hn
  by_cases h : v < 0
  ·have h3 := Hid.mk (hst2.out h)
   clear hst2 hno
   repeat' (first 
    | (with_reducible refine Rets.xcall (hc _) ?_)
    | (with_reducible refine DrawLate.intro [] ?_)
    | (with_reducible refine And.intro (fun h => ?_) ?_) <;> (try (exfalso; omega))
    | (simp -dsimp -implicitDefEqProofs [*]))
   exact Next.intro (n + 1) ⟨by omega, by omega, h3⟩ (by omega) (by simp) q5q
  ·have h3 := hno.out h
   have h4 : 0 ≤ v := by omega
   subst h3
   clear hst2 hno
   repeat' (first 
    | (with_reducible refine Rets.xcall (hc _) ?_)
    | (with_reducible refine DrawLate.intro [] ?_)
    | (simp -dsimp -implicitDefEqProofs [*]))
   exact .same ⟨rfl, rfl⟩
 ·have hw : w = true := kw.out.2 fun i h => hI.out i (by omega) h
  subst hw
  have hnl2 : ¬ (n : Int) < l.length := by omega
  clear hI kw hg hn hnl
  repeat' (simp -dsimp -implicitDefEqProofs [*])
  exact .same ⟨rfl, rfl⟩
theorem j3w (g : FuncId) (cs : List PV) (p : Card → Bool) (t : Bool) (l : List Card) (hl : l.length ≤ 9223372036854775807) (st : q5d) (hf : ∀ x ∈ l, Rets P g (x.pv :: cs) st (.bool (p x))) : Rets P F.q0v [Card.lst t l, .func (.func g) [] cs] st (.int (k7x p l)) := by
 refine H.q0v.view q5n rfl rfl ?_
 repeat' (simp -dsimp -implicitDefEqProofs [*])
 refine q5g (fun n : Nat => [(0, Card.lst t l), (1, .func (.func g) [] cs), (7, .int l.length), (8, .int n)]) (fun _ => st) (fun n => n ≤ l.length ∧ Hid (∀ j (_ : j < n) (hl : j < l.length), p l[j] = false)) (fun n => l.length - n) 0 ⟨Nat.zero_le _, ⟨fun j hj => absurd hj (by omega)⟩⟩ (by simp) (.refl _) ?_
 rintro n ⟨hn, he2⟩
 by_cases hnl : n < l.length
 ·have hw := q5h (n := n) (by omega)
  have hf1 := hf l[n] (List.getElem_mem hnl)
  have hi : Hid (p l[n] = true → k7x p l = n) := ⟨fun hp => q9q hnl (fun j hj => he2.out j hj (by omega)) hp⟩
  have hno : Hid (p l[n] = false → ∀ j (_ : j < n + 1) (hl : j < l.length), p l[j] = false) := ⟨fun hp j hj hl => if h : j = n then by subst h; exact hp else he2.out j (by omega) hl⟩
  have s0 := Card.row_sub l n hnl
  have hn2 : n * 36 < l.length * 36 := by omega
  clear hf he2
  cases hp : p l[n] with
  | true =>
   rw [hp] at hf1
   have e := hi.out hp
   rw [e]
   clear hp hi hno
   repeat' (first 
    | (with_reducible refine Rets.xcall (hf1) ?_)
    | (simp -dsimp -implicitDefEqProofs [*]))
   exact .same ⟨rfl, rfl⟩
  | false =>
   rw [hp] at hf1
   have e : Hid _ := ⟨hno.out hp⟩
   clear hp hi hno
   repeat' (first 
    | (with_reducible refine Rets.xcall (hf1) ?_)
    | (simp -dsimp -implicitDefEqProofs [*]))
   exact Next.intro (n + 1) ⟨by omega, e⟩ (by omega) (by simp) q5q
 ·have e : n = l.length := by omega
  subst e
  have hi : Hid (k7x p l = -1) := ⟨k02 fun j hj => he2.out j hj hj⟩
  rw [hi.out]
  clear hf he2
  repeat' (simp -dsimp -implicitDefEqProofs [*])
  exact .same ⟨rfl, rfl⟩
theorem j0u (g : FuncId) (cs : List PV) (p : Card → Bool) (t : Bool) (l : List Card) (hl : l.length ≤ 9223372036854775807) (st : q5d) (hf : ∀ x ∈ l, Rets P g (x.pv :: cs) st (.bool (p x))) : Rets P F.q0p [Card.lst t l, .func (.func g) [] cs] st (.bool (l.any p)) := by
 have hi := j3w g cs p t l hl st hf
 have e := k6g p l
 rw [← e]
 obtain ⟨v, hv⟩ : ∃ v, v = k7x p l := ⟨_, rfl⟩
 rw [← hv] at hi ⊢
 clear hv e hf
 refine H.q0p.pure q5n rfl rfl ?_
 repeat' (first 
  | (with_reducible refine Rets.xcall (hi) ?_)
  | (simp -dsimp -implicitDefEqProofs [*]))
theorem j0v (g : FuncId) (fs : List PV) (p0 : Nat) (U : TypeId) (w : Bool) (x : Card) (st0 st : q5d) (hp0 : q6u st0 p0) (hs : st = (p0, .arr U [.func (.func g) fs []]) :: st0) (hg : ∀ st, StLe st0 st → Rets P g (fs ++ [x.pv]) st (.bool w)) : Rets P F.q1k [x.pv, .ptr p0 0] st (.bool (!w)) := by
 subst hs
 refine H.q1k.pure q5n rfl rfl ?_
 repeat' (first 
  | (with_reducible refine Fresh.intro fun b hb => ?_) <;> (try simp -dsimp -implicitDefEqProofs [*] at hb)
  | (simp -dsimp -implicitDefEqProofs [*]))
 have hg1 := hg ((b, .arr T.apiSealed x.enc) :: (p0, .arr U [.func (.func g) fs []]) :: st0) (.trans (.fresh hp0) (.fresh (by simp [*])))
 repeat' (first 
  | (with_reducible refine Rets.xcall (hg1) ?_)
  | (simp -dsimp -implicitDefEqProofs [*]))
theorem j3x (g : FuncId) (fs : List PV) (p : Card → Bool) (t : Bool) (l : List Card) (hl : l.length ≤ 9223372036854775807) (st : q5d) (hg : ∀ x ∈ l, ∀ st', StLe st st' → Rets P g (fs ++ [x.pv]) st' (.bool (p x))) : Rets P F.q2l [Card.lst t l, .func (.func g) fs []] st (.bool (l.all p)) := by
 refine H.q2l.pure q5n rfl rfl ?_
 repeat' (first 
  | (with_reducible refine Fresh.intro fun b hb => ?_) <;> (try simp -dsimp -implicitDefEqProofs [*] at hb)
  | (simp -dsimp -implicitDefEqProofs [*]))
 have hc := j0u F.q1k [.ptr b 0] (fun x => !p x) t l hl ((b, .arr T.q49 [.func (.func g) fs []]) :: st) (fun x hx => j0v g fs b _ (p x) x st _ hb rfl (hg x hx))
 have e : (!l.any fun x => !p x) = l.all p := by rw [List.all_eq_not_any_not]
 rw [← e]
 generalize (l.any fun x => !p x) = w at *
 clear hg e
 repeat' (first 
  | (with_reducible refine Rets.xcall (hc) ?_)
  | (simp -dsimp -implicitDefEqProofs [*]))
open Go.Pv
set_option maxRecDepth 100000
set_option maxHeartbeats 4000000
theorem z7i (g : FuncId) (c : Sh → Sh → Int) (t : Bool) (l : List Sh) (hl : l.length ≤ 9223372036854775807) (st : q5d) (hg : ∀ x ∈ l, ∀ y ∈ l, ∀ st, Rets P g [x.pv, y.pv] st (.int (c x y))) : Rets P F.q13 [Sh.lst t l, .func (.func g) [] []] st (.bool (q53 c l)) := by
 obtain ⟨w, hw⟩ : ∃ w, w = q53 c l := ⟨_, rfl⟩
 rw [← hw]
 have kw : Hid (w = true ↔ ∀ i (h : i + 1 < l.length), c l[i] l[i + 1] < 0) := ⟨by rw [hw]; exact q72 c l⟩
 clear hw
 refine H.q13.view q5n rfl rfl ?_
 repeat' (simp -dsimp -implicitDefEqProofs [*])
 refine q5g (fun n : Nat => [(0, Sh.lst t l), (1, .func (.func g) [] []), (5, .int n)]) (fun _ => st) (fun n => 1 ≤ n ∧ n ≤ max 1 l.length ∧ Hid (∀ i (_ : i + 1 < n) (h : i + 1 < l.length), c l[i] l[i + 1] < 0)) (fun n => l.length - n) 1 ⟨Nat.le_refl _, by omega, ⟨fun i h => absurd h (by omega)⟩⟩ (by simp) (.refl _) ?_
 rintro n ⟨hn1, hn, hI⟩
 by_cases hnl : n < l.length
 ·obtain ⟨m, rfl⟩ : ∃ m, n = m + 1 := ⟨n - 1, by omega⟩
  have hml : m < l.length := by omega
  have hw := q5h (n := m + 1) (by omega)
  have wk : IntKind.i64.wrap (((m + 1 : Nat) : Int) - 1) = (m : Int) := by rw [q5m (by omega) (by omega)]; omega
  have hc := hg l[m] (List.getElem_mem hml) l[m + 1] (List.getElem_mem hnl)
  have s0 := Sh.row_sub l m hml
  have s1 := Sh.row_sub l (m + 1) hnl
  have hst : Hid (c l[m] l[m + 1] < 0 → ∀ i (_ : i + 1 < m + 2) (h : i + 1 < l.length), c l[i] l[i + 1] < 0) := ⟨fun h i hi h2 => if e : i = m then by subst e; exact h else hI.out i (by omega) h2⟩
  have hno : Hid (¬ c l[m] l[m + 1] < 0 → w = false) := ⟨fun h => Bool.eq_false_iff.2 fun e => h (kw.out.1 e m hnl)⟩
  obtain ⟨x, hx⟩ : ∃ x, x = l[m] := ⟨_, rfl⟩
  obtain ⟨y, hy⟩ : ∃ y, y = l[m + 1] := ⟨_, rfl⟩
  rw [← hx, ← hy] at hc hst hno
  rw [← hx] at s0
  rw [← hy] at s1
  obtain ⟨v, hv⟩ : ∃ v, v = c x y := ⟨_, rfl⟩
  rw [← hv] at hc hst hno
  obtain ⟨n, hnk⟩ : ∃ n, n = m + 1 := ⟨_, rfl⟩
  have hst2 : Hid (v < 0 → ∀ i (_ : i + 1 < n + 1) (h : i + 1 < l.length), c l[i] l[i + 1] < 0) := ⟨by rw [hnk]; exact hst.out⟩
  rw [← hnk] at hw wk hnl s1 ⊢
  have hn2 : n * 4 < l.length * 4 ∧ m * 4 < l.length * 4 := by omega
  clear hI hg hx hy hv hnk hst kw hn1 hn
  by_cases h : v < 0
  ·have h3 := Hid.mk (hst2.out h)
   clear hst2 hno
   repeat' (first 
    | (with_reducible refine Rets.xcall (hc _) ?_)
    | (with_reducible refine DrawLate.intro [] ?_)
    | (with_reducible refine And.intro (fun h => ?_) ?_) <;> (try (exfalso; omega))
    | (simp -dsimp -implicitDefEqProofs [*]))
   exact Next.intro (n + 1) ⟨by omega, by omega, h3⟩ (by omega) (by simp) q5q
  ·have h3 := hno.out h
   have h4 : 0 ≤ v := by omega
   subst h3
   clear hst2 hno
   repeat' (first 
    | (with_reducible refine Rets.xcall (hc _) ?_)
    | (with_reducible refine DrawLate.intro [] ?_)
    | (simp -dsimp -implicitDefEqProofs [*]))
   exact .same ⟨rfl, rfl⟩
 ·have hw : w = true := kw.out.2 fun i h => hI.out i (by omega) h
  subst hw
  have hnl2 : ¬ (n : Int) < l.length := by omega
  clear hI kw hg hn hnl
  repeat' (simp -dsimp -implicitDefEqProofs [*])
  exact .same ⟨rfl, rfl⟩
theorem j3y (g : FuncId) (cs : List PV) (p : Sh → Bool) (t : Bool) (l : List Sh) (hl : l.length ≤ 9223372036854775807) (st : q5d) (hf : ∀ x ∈ l, Rets P g (x.pv :: cs) st (.bool (p x))) : Rets P F.q0m [Sh.lst t l, .func (.func g) [] cs] st (.int (k7x p l)) := by
 refine H.q0m.view q5n rfl rfl ?_
 repeat' (simp -dsimp -implicitDefEqProofs [*])
 refine q5g (fun n : Nat => [(0, Sh.lst t l), (1, .func (.func g) [] cs), (7, .int l.length), (8, .int n)]) (fun _ => st) (fun n => n ≤ l.length ∧ Hid (∀ j (_ : j < n) (hl : j < l.length), p l[j] = false)) (fun n => l.length - n) 0 ⟨Nat.zero_le _, ⟨fun j hj => absurd hj (by omega)⟩⟩ (by simp) (.refl _) ?_
 rintro n ⟨hn, he2⟩
 by_cases hnl : n < l.length
 ·have hw := q5h (n := n) (by omega)
  have hf1 := hf l[n] (List.getElem_mem hnl)
  have hi : Hid (p l[n] = true → k7x p l = n) := ⟨fun hp => q9q hnl (fun j hj => he2.out j hj (by omega)) hp⟩
  have hno : Hid (p l[n] = false → ∀ j (_ : j < n + 1) (hl : j < l.length), p l[j] = false) := ⟨fun hp j hj hl => if h : j = n then by subst h; exact hp else he2.out j (by omega) hl⟩
  have s0 := Sh.row_sub l n hnl
  have hn2 : n * 4 < l.length * 4 := by omega
  clear hf he2
  cases hp : p l[n] with
  | true =>
   rw [hp] at hf1
   have e := hi.out hp
   rw [e]
   clear hp hi hno
   repeat' (first 
    | (with_reducible refine Rets.xcall (hf1) ?_)
    | (simp -dsimp -implicitDefEqProofs [*]))
   exact .same ⟨rfl, rfl⟩
  | false =>
   rw [hp] at hf1
   have e : Hid _ := ⟨hno.out hp⟩
   clear hp hi hno
   repeat' (first 
    | (with_reducible refine Rets.xcall (hf1) ?_)
    | (simp -dsimp -implicitDefEqProofs [*]))
   exact Next.intro (n + 1) ⟨by omega, e⟩ (by omega) (by simp) q5q
 ·have e : n = l.length := by omega
  subst e
  have hi : Hid (k7x p l = -1) := ⟨k02 fun j hj => he2.out j hj hj⟩
  rw [hi.out]
  clear hf he2
  repeat' (simp -dsimp -implicitDefEqProofs [*])
  exact .same ⟨rfl, rfl⟩
theorem j0w (g : FuncId) (cs : List PV) (p : Sh → Bool) (t : Bool) (l : List Sh) (hl : l.length ≤ 9223372036854775807) (st : q5d) (hf : ∀ x ∈ l, Rets P g (x.pv :: cs) st (.bool (p x))) : Rets P F.q0i [Sh.lst t l, .func (.func g) [] cs] st (.bool (l.any p)) := by
 have hi := j3y g cs p t l hl st hf
 have e := k6g p l
 rw [← e]
 obtain ⟨v, hv⟩ : ∃ v, v = k7x p l := ⟨_, rfl⟩
 rw [← hv] at hi ⊢
 clear hv e hf
 refine H.q0i.pure q5n rfl rfl ?_
 repeat' (first 
  | (with_reducible refine Rets.xcall (hi) ?_)
  | (simp -dsimp -implicitDefEqProofs [*]))
theorem j0x (g : FuncId) (fs : List PV) (p0 : Nat) (U : TypeId) (w : Bool) (x : Sh) (st0 st : q5d) (hp0 : q6u st0 p0) (hs : st = (p0, .arr U [.func (.func g) fs []]) :: st0) (hg : ∀ st, StLe st0 st → Rets P g (fs ++ [x.pv]) st (.bool w)) : Rets P F.q1d [x.pv, .ptr p0 0] st (.bool (!w)) := by
 subst hs
 refine H.q1d.pure q5n rfl rfl ?_
 repeat' (first 
  | (with_reducible refine Fresh.intro fun b hb => ?_) <;> (try simp -dsimp -implicitDefEqProofs [*] at hb)
  | (simp -dsimp -implicitDefEqProofs [*]))
 have hg1 := hg ((b, .arr T.apiKeyShare x.enc) :: (p0, .arr U [.func (.func g) fs []]) :: st0) (.trans (.fresh hp0) (.fresh (by simp [*])))
 repeat' (first 
  | (with_reducible refine Rets.xcall (hg1) ?_)
  | (simp -dsimp -implicitDefEqProofs [*]))
theorem j3z (g : FuncId) (fs : List PV) (p : Sh → Bool) (t : Bool) (l : List Sh) (hl : l.length ≤ 9223372036854775807) (st : q5d) (hg : ∀ x ∈ l, ∀ st', StLe st st' → Rets P g (fs ++ [x.pv]) st' (.bool (p x))) : Rets P F.q2a [Sh.lst t l, .func (.func g) fs []] st (.bool (l.all p)) := by
 refine H.q2a.pure q5n rfl rfl ?_
 repeat' (first 
  | (with_reducible refine Fresh.intro fun b hb => ?_) <;> (try simp -dsimp -implicitDefEqProofs [*] at hb)
  | (simp -dsimp -implicitDefEqProofs [*]))
 have hc := j0w F.q1d [.ptr b 0] (fun x => !p x) t l hl ((b, .arr T.q5a [.func (.func g) fs []]) :: st) (fun x hx => j0x g fs b _ (p x) x st _ hb rfl (hg x hx))
 have e : (!l.any fun x => !p x) = l.all p := by rw [List.all_eq_not_any_not]
 rw [← e]
 generalize (l.any fun x => !p x) = w at *
 clear hg e
 repeat' (first 
  | (with_reducible refine Rets.xcall (hc) ?_)
  | (simp -dsimp -implicitDefEqProofs [*]))
end Go.Proofs.YtnooplpbpfiapaaGreatDoor
