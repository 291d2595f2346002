/- What acts do to a session, by the program. -/
import Derived.Test.YtnooplpbpfiapaaGreatDoorG36T
import Derived.Test.YtnooplpbpfiapaaGreatDoorG36N
import Derived.Test.YtnooplpbpfiapaaGreatDoorS36ZK
import Derived.Test.YtnooplpbpfiapaaGreatDoorLBx
namespace Go.Proofs.YtnooplpbpfiapaaGreatDoor
open Go.Pv
set_option maxRecDepth 100000
set_option maxHeartbeats 8000000
abbrev k6h (s : Ses) : PObj := .arr T.q47 s.enc
abbrev j6t (e : Int) : PV := .iface T.openingstop (.agg [.int e])
def z3w (s : Ses) (a : Act) : Bool := decide (s.time ≤ a.time) && decide (a.time < 2097152)
theorem y0o (s : Ses) (a : Act) (h : z3w s a = true) (y : Nat) (st : q5d) (hy : q6u st y) : Does P F.q1n [.ptr y 0, a.pv] ((y, k6h s) :: st) (.tuple []) ((y, k6h { s with time := a.time }) :: st) := by
 unfold z3w at h
 simp only [Bool.and_eq_true, decide_eq_true_eq] at h
 obtain ⟨h1, h2⟩ := h
 refine H.q1n.view q5n rfl rfl ?_
 repeat' (first 
  | (with_reducible refine Fresh.intro fun b hb => ?_) <;> (try simp -dsimp -implicitDefEqProofs [*] at hb)
  | (with_reducible refine Rets.xcall (q6n _ _) ?_)
  | (simp -dsimp -implicitDefEqProofs [*]))
 exact RetView.drop (st' := (y, k6h { s with time := a.time }) :: st) q5q ⟨rfl, rfl⟩
theorem y0p (s : Ses) (a : Act) (h : z3w s a = false) (y : Nat) (st : q5d) (_hy : q6u st y) : Panics P F.q1n [.ptr y 0, a.pv] ((y, k6h s) :: st) (j6t 1) := by
 unfold z3w at h
 refine H.q1n.panics q5n rfl rfl ?_
 by_cases h1 : s.time ≤ a.time
 ·have h2 : ¬ a.time < 2097152 := fun h2 => by rw [decide_eq_true h1, decide_eq_true h2] at h; cases h
  clear h
  repeat' (first 
   | (with_reducible refine Fresh.intro fun b hb => ?_) <;> (try simp -dsimp -implicitDefEqProofs [*] at hb)
   | (with_reducible refine Panics.xcall (q8i _ _) ?_)
   | (simp -dsimp -implicitDefEqProofs [*]))
 ·clear h
  repeat' (first 
   | (with_reducible refine Fresh.intro fun b hb => ?_) <;> (try simp -dsimp -implicitDefEqProofs [*] at hb)
   | (with_reducible refine Panics.xcall (q8i _ _) ?_)
   | (simp -dsimp -implicitDefEqProofs [*]))
def y8g (s : Ses) (x : Card) : Option (List Card) := k9y (fun y => k1h y.j x.j) (fun y => z3n y x) s.sealed x
def y8h (s : Ses) (x : Sh) : Option (List Sh) := k9y (fun y => q98 y x) (fun y => decide (y = x)) s.keys x
def y8i (s : Ses) (x : Shn) : Option (List Shn) := k9y (fun y => k1h y.j x.j) (fun y => z3o y x) s.shown x
def k91 (s : Ses) (x : Card) : List Card ⊕ Int := if q8j s = true then .inr 360 else if q8l s x = true then (match y8g s x with
 | some l => .inl l
 | none => .inr 141) else .inr 1
def k4n (s : Ses) (x : Sh) : List Sh ⊕ Int := if q8j s = true then (if q7d s x = true then (match y8h s x with
 | some l => .inl l
 | none => .inr 141) else .inr 1) else .inr 360
def k92 (s : Ses) (x : Shn) : List Shn ⊕ Int := if q8j s = true then (if q75 s x = true then (match y8i s x with
 | some l => .inl l
 | none => .inr 141) else .inr 1) else .inr 360
theorem y0q (s : Ses) (hL : s.Len) (hr : q53 cJ s.sealed = true) (hl : s.sealed.length ≤ 1000) (a : Act) (ha : a.card.c.length ≤ 100000) (M : List Card) (h : k91 s a.card = .inl M) (y : Nat) (st : q5d) (hy : q6u st y) : Does P F.q1o [.ptr y 0, a.pv] ((y, k6h s) :: st) (.tuple []) ((y, k6h { s with sealed := M }) :: st) := by
 have c1 := q8k s
 have c2 := k67 s hL.judges a.card ha
 have c3 := fun hM => y0g F.q2k F.q2z (fun y => k1h y.j a.card.j) (fun y => z3n y a.card) s.sealed a.card hl (k66 hr a.card.j) (fun y _ st => k47 y a.card st) (fun y hy st => k6f y a.card (by have := hL.cards y hy; omega) st) M hM
 unfold k91 y8g at h
 generalize q8j s = O at *
 generalize q8l s a.card = S at *
 cases O with
 | true => simp at h
 | false =>
  cases S with
  | false => simp at h
  | true =>
   simp only [Bool.false_eq_true, if_false, if_true] at h
   have hM : k9y (fun y => k1h y.j a.card.j) (fun y => z3n y a.card) s.sealed a.card = some M := by
    split at h
    ·rename_i l hl; rw [hl]; congr 1; exact Sum.inl.inj h
    ·cases h
   have c3 := c3 hM
   clear h hM hL hr ha
   refine H.q1o.view q5n rfl rfl ?_
   repeat' (first 
    | (with_reducible refine Fresh.intro fun b hb => ?_) <;> (try simp -dsimp -implicitDefEqProofs [*] at hb)
    | (with_reducible refine Rets.xcall (c1 _) ?_)
    | (with_reducible refine Rets.xcall (c2 _) ?_)
    | (with_reducible refine Rets.xcall (c3 _) ?_)
    | (with_reducible refine Rets.xcall (q6n _ _) ?_)
    | (with_reducible refine DrawLate.intro [] ?_)
    | (simp -dsimp -implicitDefEqProofs [*]))
   exact RetView.drop (st' := (y, k6h { s with sealed := M }) :: st) q5q ⟨rfl, rfl⟩
theorem y0r (s : Ses) (hL : s.Len) (hr : q53 cJ s.sealed = true) (hl : s.sealed.length ≤ 1000) (a : Act) (ha : a.card.c.length ≤ 100000) (E : Int) (h : k91 s a.card = .inr E) (y : Nat) (st : q5d) (_hy : q6u st y) : Panics P F.q1o [.ptr y 0, a.pv] ((y, k6h s) :: st) (j6t E) := by
 have c1 := q8k s
 have c2 := k67 s hL.judges a.card ha
 have c3 := fun hM => y0h F.q2k F.q2z (fun y => k1h y.j a.card.j) (fun y => z3n y a.card) s.sealed a.card hl (k66 hr a.card.j) (fun y _ st => k47 y a.card st) (fun y hy st => k6f y a.card (by have := hL.cards y hy; omega) st) hM
 unfold k91 y8g at h
 generalize q8j s = O at *
 generalize q8l s a.card = S at *
 refine H.q1o.panics q5n rfl rfl ?_
 cases O with
 | true =>
  simp only [if_true, Sum.inr.injEq] at h
  subst h
  clear hL hr ha c3
  repeat' (first 
   | (with_reducible refine Fresh.intro fun b hb => ?_) <;> (try simp -dsimp -implicitDefEqProofs [*] at hb)
   | (with_reducible refine Rets.xcall (c1 _) ?_)
   | (with_reducible refine Panics.xcall (q8i _ _) ?_)
   | (simp -dsimp -implicitDefEqProofs [*]))
 | false =>
  cases S with
  | false =>
   simp only [Bool.false_eq_true, if_false, Sum.inr.injEq] at h
   subst h
   clear hL hr ha c3
   repeat' (first 
    | (with_reducible refine Fresh.intro fun b hb => ?_) <;> (try simp -dsimp -implicitDefEqProofs [*] at hb)
    | (with_reducible refine Rets.xcall (c1 _) ?_)
    | (with_reducible refine Rets.xcall (c2 _) ?_)
    | (with_reducible refine Rets.xcall (q6n _ _) ?_)
    | (with_reducible refine Panics.xcall (q8i _ _) ?_)
    | (simp -dsimp -implicitDefEqProofs [*]))
  | true =>
   simp only [Bool.false_eq_true, if_false, if_true] at h
   have hM : k9y (fun y => k1h y.j a.card.j) (fun y => z3n y a.card) s.sealed a.card = none ∧ E = 141 := by
    split at h
    ·cases h
    ·rename_i hl; exact ⟨hl, (Sum.inr.inj h).symm⟩
   obtain ⟨hM, rfl⟩ := hM
   have c3 := c3 hM
   clear h hM hL hr ha
   repeat' (first 
    | (with_reducible refine Fresh.intro fun b hb => ?_) <;> (try simp -dsimp -implicitDefEqProofs [*] at hb)
    | (with_reducible refine Rets.xcall (c1 _) ?_)
    | (with_reducible refine Rets.xcall (c2 _) ?_)
    | (with_reducible refine Panics.xcall (c3 _) ?_)
    | (with_reducible refine Rets.xcall (q6n _ _) ?_)
    | (with_reducible refine DrawLate.intro [] ?_)
    | (simp -dsimp -implicitDefEqProofs [*]))
open Go.Pv
set_option maxRecDepth 100000
set_option maxHeartbeats 8000000
theorem j6u (s : Ses) (hL : s.Len) (hr : q53 q98 s.keys = true) (hl : s.keys.length ≤ 1000) (a : Act) (M : List Sh) (h : k4n s a.key = .inl M) (y : Nat) (st : q5d) (hy : q6u st y) : Does P F.q1g [.ptr y 0, a.pv] ((y, k6h s) :: st) (.tuple []) ((y, k6h { s with keys := M }) :: st) := by
 have c1 := q8k s
 have c2 := k5a s hL.judges a.key
 have c3 := fun hM => y0j F.q2b F.q2p (fun y => q98 y a.key) (fun y => decide (y = a.key)) s.keys a.key hl (k9z hr a.key) (fun y _ st => k3t y a.key st) (fun y _ st => k4m y a.key st) M hM
 unfold k4n y8h at h
 generalize q8j s = O at *
 generalize q7d s a.key = S at *
 cases O with
 | false => simp at h
 | true =>
  cases S with
  | false => simp at h
  | true =>
   simp only [Bool.false_eq_true, if_false, if_true] at h
   have hM : k9y (fun y => q98 y a.key) (fun y => decide (y = a.key)) s.keys a.key = some M := by
    split at h
    ·rename_i l hl; rw [hl]; congr 1; exact Sum.inl.inj h
    ·cases h
   have c3 := c3 hM
   clear h hM hL hr
   refine H.q1g.view q5n rfl rfl ?_
   repeat' (first 
    | (with_reducible refine Fresh.intro fun b hb => ?_) <;> (try simp -dsimp -implicitDefEqProofs [*] at hb)
    | (with_reducible refine Rets.xcall (c1 _) ?_)
    | (with_reducible refine Rets.xcall (c2 _) ?_)
    | (with_reducible refine Rets.xcall (c3 _) ?_)
    | (with_reducible refine Rets.xcall (q6n _ _) ?_)
    | (with_reducible refine DrawLate.intro [] ?_)
    | (simp -dsimp -implicitDefEqProofs [*]))
   exact RetView.drop (st' := (y, k6h { s with keys := M }) :: st) q5q ⟨rfl, rfl⟩
theorem j6v (s : Ses) (hL : s.Len) (hr : q53 q98 s.keys = true) (hl : s.keys.length ≤ 1000) (a : Act) (E : Int) (h : k4n s a.key = .inr E) (y : Nat) (st : q5d) (_hy : q6u st y) : Panics P F.q1g [.ptr y 0, a.pv] ((y, k6h s) :: st) (j6t E) := by
 have c1 := q8k s
 have c2 := k5a s hL.judges a.key
 have c3 := fun hM => y0k F.q2b F.q2p (fun y => q98 y a.key) (fun y => decide (y = a.key)) s.keys a.key hl (k9z hr a.key) (fun y _ st => k3t y a.key st) (fun y _ st => k4m y a.key st) hM
 unfold k4n y8h at h
 generalize q8j s = O at *
 generalize q7d s a.key = S at *
 refine H.q1g.panics q5n rfl rfl ?_
 cases O with
 | false =>
  simp only [Bool.false_eq_true, if_false, Sum.inr.injEq] at h
  subst h
  clear hL hr c3
  repeat' (first 
   | (with_reducible refine Fresh.intro fun b hb => ?_) <;> (try simp -dsimp -implicitDefEqProofs [*] at hb)
   | (with_reducible refine Rets.xcall (c1 _) ?_)
   | (with_reducible refine Panics.xcall (q8i _ _) ?_)
   | (simp -dsimp -implicitDefEqProofs [*]))
 | true =>
  cases S with
  | false =>
   simp only [Bool.false_eq_true, if_false, if_true, Sum.inr.injEq] at h
   subst h
   clear hL hr c3
   repeat' (first 
    | (with_reducible refine Fresh.intro fun b hb => ?_) <;> (try simp -dsimp -implicitDefEqProofs [*] at hb)
    | (with_reducible refine Rets.xcall (c1 _) ?_)
    | (with_reducible refine Rets.xcall (c2 _) ?_)
    | (with_reducible refine Rets.xcall (q6n _ _) ?_)
    | (with_reducible refine Panics.xcall (q8i _ _) ?_)
    | (simp -dsimp -implicitDefEqProofs [*]))
  | true =>
   simp only [Bool.false_eq_true, if_false, if_true] at h
   have hM : k9y (fun y => q98 y a.key) (fun y => decide (y = a.key)) s.keys a.key = none ∧ E = 141 := by
    split at h
    ·cases h
    ·rename_i hl; exact ⟨hl, (Sum.inr.inj h).symm⟩
   obtain ⟨hM, rfl⟩ := hM
   have c3 := c3 hM
   clear h hM hL hr
   repeat' (first 
    | (with_reducible refine Fresh.intro fun b hb => ?_) <;> (try simp -dsimp -implicitDefEqProofs [*] at hb)
    | (with_reducible refine Rets.xcall (c1 _) ?_)
    | (with_reducible refine Rets.xcall (c2 _) ?_)
    | (with_reducible refine Panics.xcall (c3 _) ?_)
    | (with_reducible refine Rets.xcall (q6n _ _) ?_)
    | (with_reducible refine DrawLate.intro [] ?_)
    | (simp -dsimp -implicitDefEqProofs [*]))
theorem y0s (s : Ses) (hL : s.Len) (hr : q53 cJ s.sealed = true) (hr2 : q53 nJ s.shown = true) (hl : s.shown.length ≤ 1000) (a : Act) (ha : a.shown.k.length ≤ 100000) (M : List Shn) (h : k92 s a.shown = .inl M) (y : Nat) (st : q5d) (hy : q6u st y) (hG : GL st) : Does P F.q1p [.ptr y 0, a.pv] ((y, k6h s) :: st) (.tuple []) ((y, k6h { s with shown := M }) :: st) := by
 have c1 := q8k s
 have hN := q6k hG.h0 hG.h1
 have h0 := hG.h0
 have h1 := hG.h1
 have hyN := hy
 rw [hN] at hyN
 have c2 := fun st h0 h1 => k68 s hL.sealed hL.cards hr a.shown ha st ⟨h0, h1⟩
 have c3 := fun hM => y0m F.q2c F.q2q (fun y => k1h y.j a.shown.j) (fun y => z3o y a.shown) s.shown a.shown hl (k49 hr2 a.shown.j) (fun y _ st => k3s y a.shown st) (fun y hy st => k4l y a.shown (by have := hL.given y hy; omega) st) M hM
 unfold k92 y8i at h
 generalize q8j s = O at *
 generalize q75 s a.shown = S at *
 cases O with
 | false => simp at h
 | true =>
  cases S with
  | false => simp at h
  | true =>
   simp only [Bool.false_eq_true, if_false, if_true] at h
   have hM : k9y (fun y => k1h y.j a.shown.j) (fun y => z3o y a.shown) s.shown a.shown = some M := by
    split at h
    ·rename_i l hl; rw [hl]; congr 1; exact Sum.inl.inj h
    ·cases h
   have c3 := c3 hM
   clear h hM hL hr hr2 ha hG
   refine H.q1p.view q5n rfl rfl ?_
   repeat' (first 
    | (with_reducible refine Fresh.intro fun b hb => ?_) <;> (try simp -dsimp -implicitDefEqProofs [*] at hb)
    | (with_reducible refine Rets.xcall (c1 _) ?_)
    | (with_reducible refine Rets.xcall (c2 _ (by simp [*]) (by simp [*])) ?_)
    | (with_reducible refine Rets.xcall (c3 _) ?_)
    | (with_reducible refine Rets.xcall (q6n _ _) ?_)
    | (with_reducible refine DrawLate.intro [] ?_)
    | (simp -dsimp -implicitDefEqProofs [*]))
   exact RetView.drop (st' := (y, k6h { s with shown := M }) :: st) q5q ⟨rfl, rfl⟩
theorem y0t (s : Ses) (hL : s.Len) (hr : q53 cJ s.sealed = true) (hr2 : q53 nJ s.shown = true) (hl : s.shown.length ≤ 1000) (a : Act) (ha : a.shown.k.length ≤ 100000) (E : Int) (h : k92 s a.shown = .inr E) (y : Nat) (st : q5d) (hy : q6u st y) (hG : GL st) : Panics P F.q1p [.ptr y 0, a.pv] ((y, k6h s) :: st) (j6t E) := by
 have c1 := q8k s
 have hN := q6k hG.h0 hG.h1
 have h0 := hG.h0
 have h1 := hG.h1
 have hyN := hy
 rw [hN] at hyN
 have c2 := fun st h0 h1 => k68 s hL.sealed hL.cards hr a.shown ha st ⟨h0, h1⟩
 have c3 := fun hM => y0n F.q2c F.q2q (fun y => k1h y.j a.shown.j) (fun y => z3o y a.shown) s.shown a.shown hl (k49 hr2 a.shown.j) (fun y _ st => k3s y a.shown st) (fun y hy st => k4l y a.shown (by have := hL.given y hy; omega) st) hM
 unfold k92 y8i at h
 generalize q8j s = O at *
 generalize q75 s a.shown = S at *
 refine H.q1p.panics q5n rfl rfl ?_
 cases O with
 | false =>
  simp only [Bool.false_eq_true, if_false, Sum.inr.injEq] at h
  subst h
  clear hL hr hr2 ha hG c3
  repeat' (first 
   | (with_reducible refine Fresh.intro fun b hb => ?_) <;> (try simp -dsimp -implicitDefEqProofs [*] at hb)
   | (with_reducible refine Rets.xcall (c1 _) ?_)
   | (with_reducible refine Panics.xcall (q8i _ _) ?_)
   | (simp -dsimp -implicitDefEqProofs [*]))
 | true =>
  cases S with
  | false =>
   simp only [Bool.false_eq_true, if_false, if_true, Sum.inr.injEq] at h
   subst h
   clear hL hr hr2 ha hG c3
   repeat' (first 
    | (with_reducible refine Fresh.intro fun b hb => ?_) <;> (try simp -dsimp -implicitDefEqProofs [*] at hb)
    | (with_reducible refine Rets.xcall (c1 _) ?_)
    | (with_reducible refine Rets.xcall (c2 _ (by simp [*]) (by simp [*])) ?_)
    | (with_reducible refine Rets.xcall (q6n _ _) ?_)
    | (with_reducible refine Panics.xcall (q8i _ _) ?_)
    | (simp -dsimp -implicitDefEqProofs [*]))
  | true =>
   simp only [Bool.false_eq_true, if_false, if_true] at h
   have hM : k9y (fun y => k1h y.j a.shown.j) (fun y => z3o y a.shown) s.shown a.shown = none ∧ E = 141 := by
    split at h
    ·cases h
    ·rename_i hl; exact ⟨hl, (Sum.inr.inj h).symm⟩
   obtain ⟨hM, rfl⟩ := hM
   have c3 := c3 hM
   clear h hM hL hr hr2 ha hG
   repeat' (first 
    | (with_reducible refine Fresh.intro fun b hb => ?_) <;> (try simp -dsimp -implicitDefEqProofs [*] at hb)
    | (with_reducible refine Rets.xcall (c1 _) ?_)
    | (with_reducible refine Rets.xcall (c2 _ (by simp [*]) (by simp [*])) ?_)
    | (with_reducible refine Panics.xcall (c3 _) ?_)
    | (with_reducible refine Rets.xcall (q6n _ _) ?_)
    | (with_reducible refine DrawLate.intro [] ?_)
    | (simp -dsimp -implicitDefEqProofs [*]))
open Go.Pv
set_option maxRecDepth 100000
set_option maxHeartbeats 8000000
def doR (s : Ses) (a : Act) : Ses ⊕ Int :=
 if q67 s = true then
  (if a.kind = 1 then (if z3w s a = true then .inl { s with time := a.time } else .inr 1)
  else if a.kind = 2 then (match k91 s a.card with
   | .inl l => .inl { s with sealed := l }
   | .inr e => .inr e)
  else if a.kind = 3 then (match k4n s a.key with
   | .inl l => .inl { s with keys := l }
   | .inr e => .inr e)
  else if a.kind = 4 then (match k92 s a.shown with
   | .inl l => .inl { s with shown := l }
   | .inr e => .inr e)
  else .inr 1)
 else .inr 360
def doS (s : Ses) (a : Act) : Ses := match doR s a with
 | .inl x => x
 | .inr _ => zeroSes
def doE (s : Ses) (a : Act) : Int := match doR s a with
 | .inl _ => 0
 | .inr e => e
theorem z9e (s : Ses) (hL : s.Len) (a : Act) (ha : a.card.c.length ≤ 100000) (ha2 : a.shown.k.length ≤ 100000) (hl : s.sealed.length ≤ 1000 ∧ s.keys.length ≤ 1000 ∧ s.shown.length ≤ 1000) (st : q5d) (hG : GL st) : Rets P F.q3k [s.pv, a.pv] st (.tuple [(doS s a).pv, .int (doE s a)]) := by
 have hN := q6k hG.h0 hG.h1
 have h0 := hG.h0
 have h1 := hG.h1
 have c := fun st h0 h1 => k04 s hL st ⟨h0, h1⟩
 obtain ⟨S, hS⟩ : ∃ S, S = doS s a := ⟨_, rfl⟩
 obtain ⟨E, hE⟩ : ∃ E, E = doE s a := ⟨_, rfl⟩
 rw [← hS, ← hE]
 unfold doS at hS
 unfold doE at hE
 refine H.q3k.view q5n rfl rfl ?_
 by_cases hR : q67 s = true
 case neg =>
  have e : doR s a = .inr 360 := by unfold doR; rw [if_neg hR]
  rw [e] at hS hE
  simp only at hS hE
  subst hS
  subst hE
  rw [if_neg hR] at c
  clear hR e hL hG
  repeat' (first 
   | (with_reducible refine Fresh.intro fun b hb => ?_) <;> (try simp -dsimp -implicitDefEqProofs [*] at hb)
   | (with_reducible refine Rets.xcall (c _ (by simp [*]) (by simp [*])) ?_)
   | (with_reducible refine Panics.xcall (q8i _ _) ?_)
   | (with_reducible refine Defs.xdef (q9p _ _ 0 _ (by simp [*])) ?_)
   | (simp -dsimp -implicitDefEqProofs [H.q0t.enters, *]))
  repeat' (simp -dsimp -implicitDefEqProofs [q90, *])
  exact RetView.le (PLe.tuple2 q85 (.refl _)) (RetView.drop (st' := st) q5q ⟨rfl, rfl⟩)
 rw [if_pos hR] at c
 have hrb := hR
 unfold q67 at hrb
 simp only [Bool.and_eq_true] at hrb
 have hr1 : q53 cJ s.sealed = true := hrb.2.2.1.1
 have hr2 : q53 q98 s.keys = true := hrb.2.2.2.1.1
 have hr3 : q53 nJ s.shown = true := hrb.2.2.2.2.1.1
 clear hrb
 by_cases k1 : a.kind = 1
 ·cases hp : z3w s a with
  | false =>
   have e : doR s a = .inr 1 := by unfold doR; rw [if_pos hR, if_pos k1, if_neg (by simp [hp])]
   rw [e] at hS hE
   simp only at hS hE
   subst hS
   subst hE
   have m := fun y st hy => y0p s a hp y st hy
   clear hR e hL hG hr1 hr2 hr3 hp
   repeat' (first 
    | (with_reducible refine Fresh.intro fun b hb => ?_) <;> (try simp -dsimp -implicitDefEqProofs [*] at hb)
    | (with_reducible refine Rets.xcall (c _ (by simp [*]) (by simp [*])) ?_)
    | (with_reducible refine Rets.xcall (q6n _ _) ?_)
    | (with_reducible refine Panics.xcall (m _ _ (by simp [*])) ?_)
    | (with_reducible refine Defs.xdef (q9p _ _ 0 _ (by simp [*])) ?_)
    | (simp -dsimp -implicitDefEqProofs [H.q0t.enters, *]))
   repeat' (simp -dsimp -implicitDefEqProofs [q90, *])
   exact RetView.le (PLe.tuple2 q85 (.refl _)) (RetView.drop (st' := st) q5q ⟨rfl, rfl⟩)
  | true =>
   have e : doR s a = .inl { s with time := a.time } := by unfold doR; rw [if_pos hR, if_pos k1, if_pos hp]
   rw [e] at hS hE
   simp only at hS hE
   have m := fun y st hy => y0o s a hp y st hy
   rw [← hS] at m
   subst hE
   clear hR e hL hG hr1 hr2 hr3 hp hS
   repeat' (first 
    | (with_reducible refine Fresh.intro fun b hb => ?_) <;> (try simp -dsimp -implicitDefEqProofs [*] at hb)
    | (with_reducible refine Rets.xcall (c _ (by simp [*]) (by simp [*])) ?_)
    | (with_reducible refine Rets.xcall (q6n _ _) ?_)
    | (with_reducible refine Does.xcall (m _ _ (by simp [*])) ?_)
    | (with_reducible refine Defs.xdef (k2q _ _) ?_)
    | (simp -dsimp -implicitDefEqProofs [H.q0t.enters, *]))
   skip
   exact RetView.drop (st' := st) q5q ⟨rfl, rfl⟩
 by_cases k2 : a.kind = 2
 ·cases hp : k91 s a.card with
  | inr v =>
   have e : doR s a = .inr v := by unfold doR; rw [if_pos hR, if_neg k1, if_pos k2, hp]
   rw [e] at hS hE
   simp only at hS hE
   have m := y0r s hL hr1 hl.1 a ha v hp
   subst hS
   subst hE
   clear hR e hL hG hr1 hr2 hr3 hp
   repeat' (first 
    | (with_reducible refine Fresh.intro fun b hb => ?_) <;> (try simp -dsimp -implicitDefEqProofs [*] at hb)
    | (with_reducible refine Rets.xcall (c _ (by simp [*]) (by simp [*])) ?_)
    | (with_reducible refine Rets.xcall (q6n _ _) ?_)
    | (with_reducible refine Panics.xcall (m _ _ (by simp [*])) ?_)
    | (with_reducible refine Defs.xdef (q9p _ _ 0 _ (by simp [*])) ?_)
    | (simp -dsimp -implicitDefEqProofs [H.q0t.enters, *]))
   repeat' (simp -dsimp -implicitDefEqProofs [q90, *])
   exact RetView.le (PLe.tuple2 q85 (.refl _)) (RetView.drop (st' := st) q5q ⟨rfl, rfl⟩)
  | inl v =>
   have e : doR s a = .inl { s with sealed := v } := by unfold doR; rw [if_pos hR, if_neg k1, if_pos k2, hp]
   rw [e] at hS hE
   simp only at hS hE
   have m := y0q s hL hr1 hl.1 a ha v hp
   rw [← hS] at m
   subst hE
   clear hR e hL hG hr1 hr2 hr3 hp hS
   repeat' (first 
    | (with_reducible refine Fresh.intro fun b hb => ?_) <;> (try simp -dsimp -implicitDefEqProofs [*] at hb)
    | (with_reducible refine Rets.xcall (c _ (by simp [*]) (by simp [*])) ?_)
    | (with_reducible refine Rets.xcall (q6n _ _) ?_)
    | (with_reducible refine Does.xcall (m _ _ (by simp [*])) ?_)
    | (with_reducible refine Defs.xdef (k2q _ _) ?_)
    | (simp -dsimp -implicitDefEqProofs [H.q0t.enters, *]))
   skip
   exact RetView.drop (st' := st) q5q ⟨rfl, rfl⟩
 by_cases k3 : a.kind = 3
 ·cases hp : k4n s a.key with
  | inr v =>
   have e : doR s a = .inr v := by unfold doR; rw [if_pos hR, if_neg k1, if_neg k2, if_pos k3, hp]
   rw [e] at hS hE
   simp only at hS hE
   have m := j6v s hL hr2 hl.2.1 a v hp
   subst hS
   subst hE
   clear hR e hL hG hr1 hr2 hr3 hp
   repeat' (first 
    | (with_reducible refine Fresh.intro fun b hb => ?_) <;> (try simp -dsimp -implicitDefEqProofs [*] at hb)
    | (with_reducible refine Rets.xcall (c _ (by simp [*]) (by simp [*])) ?_)
    | (with_reducible refine Rets.xcall (q6n _ _) ?_)
    | (with_reducible refine Panics.xcall (m _ _ (by simp [*])) ?_)
    | (with_reducible refine Defs.xdef (q9p _ _ 0 _ (by simp [*])) ?_)
    | (simp -dsimp -implicitDefEqProofs [H.q0t.enters, *]))
   repeat' (simp -dsimp -implicitDefEqProofs [q90, *])
   exact RetView.le (PLe.tuple2 q85 (.refl _)) (RetView.drop (st' := st) q5q ⟨rfl, rfl⟩)
  | inl v =>
   have e : doR s a = .inl { s with keys := v } := by unfold doR; rw [if_pos hR, if_neg k1, if_neg k2, if_pos k3, hp]
   rw [e] at hS hE
   simp only at hS hE
   have m := j6u s hL hr2 hl.2.1 a v hp
   rw [← hS] at m
   subst hE
   clear hR e hL hG hr1 hr2 hr3 hp hS
   repeat' (first 
    | (with_reducible refine Fresh.intro fun b hb => ?_) <;> (try simp -dsimp -implicitDefEqProofs [*] at hb)
    | (with_reducible refine Rets.xcall (c _ (by simp [*]) (by simp [*])) ?_)
    | (with_reducible refine Rets.xcall (q6n _ _) ?_)
    | (with_reducible refine Does.xcall (m _ _ (by simp [*])) ?_)
    | (with_reducible refine Defs.xdef (k2q _ _) ?_)
    | (simp -dsimp -implicitDefEqProofs [H.q0t.enters, *]))
   skip
   exact RetView.drop (st' := st) q5q ⟨rfl, rfl⟩
 by_cases k4 : a.kind = 4
 ·cases hp : k92 s a.shown with
  | inr v =>
   have e : doR s a = .inr v := by unfold doR; rw [if_pos hR, if_neg k1, if_neg k2, if_neg k3, if_pos k4, hp]
   rw [e] at hS hE
   simp only at hS hE
   have m := y0t s hL hr1 hr3 hl.2.2 a ha2 v hp
   subst hS
   subst hE
   clear hR e hL hG hr1 hr2 hr3 hp
   repeat' (first 
    | (with_reducible refine Fresh.intro fun b hb => ?_) <;> (try simp -dsimp -implicitDefEqProofs [*] at hb)
    | (with_reducible refine Rets.xcall (c _ (by simp [*]) (by simp [*])) ?_)
    | (with_reducible refine Rets.xcall (q6n _ _) ?_)
    | (with_reducible refine Panics.xcall (m _ _ (by simp [*]) ⟨by simp [*], by simp [*]⟩) ?_)
    | (with_reducible refine Defs.xdef (q9p _ _ 0 _ (by simp [*])) ?_)
    | (simp -dsimp -implicitDefEqProofs [H.q0t.enters, *]))
   repeat' (simp -dsimp -implicitDefEqProofs [q90, *])
   exact RetView.le (PLe.tuple2 q85 (.refl _)) (RetView.drop (st' := st) q5q ⟨rfl, rfl⟩)
  | inl v =>
   have e : doR s a = .inl { s with shown := v } := by unfold doR; rw [if_pos hR, if_neg k1, if_neg k2, if_neg k3, if_pos k4, hp]
   rw [e] at hS hE
   simp only at hS hE
   have m := y0s s hL hr1 hr3 hl.2.2 a ha2 v hp
   rw [← hS] at m
   subst hE
   clear hR e hL hG hr1 hr2 hr3 hp hS
   repeat' (first 
    | (with_reducible refine Fresh.intro fun b hb => ?_) <;> (try simp -dsimp -implicitDefEqProofs [*] at hb)
    | (with_reducible refine Rets.xcall (c _ (by simp [*]) (by simp [*])) ?_)
    | (with_reducible refine Rets.xcall (q6n _ _) ?_)
    | (with_reducible refine Does.xcall (m _ _ (by simp [*]) ⟨by simp [*], by simp [*]⟩) ?_)
    | (with_reducible refine Defs.xdef (k2q _ _) ?_)
    | (simp -dsimp -implicitDefEqProofs [H.q0t.enters, *]))
   skip
   exact RetView.drop (st' := st) q5q ⟨rfl, rfl⟩
 have e : doR s a = .inr 1 := by unfold doR; rw [if_pos hR, if_neg k1, if_neg k2, if_neg k3, if_neg k4]
 rw [e] at hS hE
 simp only at hS hE
 subst hS
 subst hE
 clear hR e hL hG hr1 hr2 hr3
 repeat' (first 
  | (with_reducible refine Fresh.intro fun b hb => ?_) <;> (try simp -dsimp -implicitDefEqProofs [*] at hb)
  | (with_reducible refine Rets.xcall (c _ (by simp [*]) (by simp [*])) ?_)
  | (with_reducible refine Rets.xcall (q6n _ _) ?_)
  | (with_reducible refine Panics.xcall (q8i _ _) ?_)
  | (with_reducible refine Defs.xdef (q9p _ _ 0 _ (by simp [*])) ?_)
  | (simp -dsimp -implicitDefEqProofs [H.q0t.enters, *]))
 repeat' (simp -dsimp -implicitDefEqProofs [q90, *])
 exact RetView.le (PLe.tuple2 q85 (.refl _)) (RetView.drop (st' := st) q5q ⟨rfl, rfl⟩)
open Go.Pv Go.Pv.Ip
set_option maxRecDepth 100000
set_option maxHeartbeats 8000000
def isK (j c : Int) (x : Sh) : Bool := decide (x.o = j) && decide (x.c = c)
abbrev ptK (x : Sh) : Pt := ⟨x.h + 1, x.v⟩
def k6j (j c : Int) (ks : List Sh) : List Pt := (ks.filter (isK j c)).map ptK
theorem z5p {j c : Int} {ks : List Sh} {i : Nat} (h : i < ks.length) : k6j j c (ks.take (i + 1)) = if ks[i].o = j ∧ ks[i].c = c then k6j j c (ks.take i) ++ [ptK ks[i]] else k6j j c (ks.take i) := by
 unfold k6j
 rw [List.take_succ_eq_append_getElem h, List.filter_append, List.map_append]
 by_cases e : ks[i].o = j ∧ ks[i].c = c
 ·rw [if_pos e]
  congr 1
  simp [isK, e.1, e.2]
 ·rw [if_neg e]
  have : isK j c ks[i] = false := by
   unfold isK
   by_cases e1 : ks[i].o = j
   ·have e2 : ¬ ks[i].c = c := fun h => e ⟨e1, h⟩
    simp [e2]
   ·simp [e1]
  simp [this]
def j04 (j c : Int) (ks : List Sh) (n : Nat) : Option Int :=
 if (k6j j c ks).length < n then none
 else if ((k6j j c ks).drop n).all (fun p => decide (atV (q56 ((k6j j c ks).take n)) p.X = p.Y)) = true then some (atV (q56 ((k6j j c ks).take n)) 0) else none
def KE (q : Nat) (j c : Int) (ks : List Sh) (y : Nat × Option (Acc Pt)) : Env := [(1, .int j), (2, .int c), (3, .ptr q 0), (8, k1p y.2), (17, Sh.lst false ks), (18, .int ks.length), (19, .int y.1)]
def KF (q : Nat) (j c : Int) (ks : List Sh) (y : Nat × Option (Acc Pt)) : Env := [(1, .int j), (2, .int c), (3, .ptr q 0), (8, Pt.lst false (q5y y.2)), (17, Sh.lst false ks), (18, .int ks.length), (19, .int y.1)]
def KI (j c : Int) (ks : List Sh) (st : q5d) (y : Nat × Option (Acc Pt)) : Prop := y.1 ≤ ks.length ∧ accOk Pt.row 2 st y.2 ∧ q5y y.2 = k6j j c (ks.take y.1)
theorem KV (q : Nat) (j c : Int) (ks : List Sh) (st : q5d) (y : Nat × Option (Acc Pt)) (h : KI j c ks st y) (_ : y.1 = ks.length) : View ⟨KE q j c ks y, q6o T.apiPoint st y.2⟩ ⟨KF q j c ks y, st⟩ :=
 View.acc rfl h.2.1 (.refl _) (by simp [KE, KF])
def y2p : Option Int → PV
 | none => .tuple [.int 0, .bool false]
 | some v => .tuple [.int v, .bool true]
theorem j6w (s : Ses) (j c : Int) (n : Nat) (hn : s.need = n) (hn2 : n ≤ 24) (hl : s.keys.length ≤ 1000) (hh : ∀ x ∈ s.keys, 0 ≤ x.h ∧ x.h < 256) (hg : GoodP (q56 ((k6j j c s.keys).take n))) (st : q5d) : Rets P F.q3g [s.pv, .int j, .int c] st (y2p (j04 j c s.keys n)) := by
 obtain ⟨W, hW⟩ : ∃ W, W = j04 j c s.keys n := ⟨_, rfl⟩
 rw [← hW]
 unfold j04 at hW
 replace hW := Hid.mk hW
 replace hh := Hid.mk hh
 refine H.q3g.view q5n rfl rfl ?_
 repeat' (first 
  | (with_reducible refine Fresh.intro fun b hb => ?_) <;> (try simp -dsimp -implicitDefEqProofs [*] at hb)
  | (simp -dsimp -implicitDefEqProofs [*]))
 revert b; intro q hq
 obtain ⟨ks, hks⟩ : ∃ ks, ks = s.keys := ⟨_, rfl⟩
 rw [← hks] at hW hl hh hg ⊢
 refine k8e (KE q j c ks) (fun y => q6o T.apiPoint ((q, k6h s) :: st) y.2) (KI j c ks ((q, k6h s) :: st)) (fun y => ks.length - y.1) (fun y => y.1 = ks.length) (KF q j c ks) (fun _ => (q, k6h s) :: st)
  (KV q j c ks ((q, k6h s) :: st)) (0, none) ⟨Nat.zero_le _, trivial, rfl⟩ (by simp [KE]) (.refl _) ?_ ?_
 ·rintro ⟨i, o⟩ ⟨hi, ho, hA⟩ hi2
  replace hi2 : i = ks.length := hi2
  replace hA : q5y o = k6j j c (ks.take i) := hA
  subst hi2
  rw [List.take_length] at hA
  simp only [KF, hA]
  clear ho hA hi hks
  obtain ⟨L, hL⟩ : ∃ L, L = k6j j c ks := ⟨_, rfl⟩
  rw [← hL] at hW hg ⊢
  have hLl : L.length ≤ 1000 := by
   rw [hL]
   unfold k6j
   rw [List.length_map]
   exact Nat.le_trans (List.length_filter_le _ _) hl
  clear hL hh
  by_cases h1 : L.length < n
  ·have e := hW.out
   rw [if_pos h1] at e
   subst e
   have h1' : (L.length : Int) < n := by omega
   clear hW hg
   repeat' (simp -dsimp -implicitDefEqProofs [*])
   exact RetView.drop (st' := st) q5q ⟨rfl, rfl⟩
  replace hW : Hid (W = if (L.drop n).all (fun p => decide (atV (q56 (L.take n)) p.X = p.Y)) = true then some (atV (q56 (L.take n)) 0) else none) := ⟨by have e := hW.out; rw [if_neg h1] at e; exact e⟩
  have h1' : ¬ (L.length : Int) < n := by omega
  obtain ⟨A, hA⟩ : ∃ A, A = L.take n := ⟨_, rfl⟩
  obtain ⟨D, hD⟩ : ∃ D, D = L.drop n := ⟨_, rfl⟩
  rw [← hA] at hg
  rw [← hA, ← hD] at hW
  have hAl : A.length = n := by rw [hA, List.length_take]; omega
  have hDl : L.length - n = D.length := by rw [hD, List.length_drop]
  have rA : (Pt.row L).take (n * 2) = Pt.row A := by rw [hA]; exact Pt.row_take L n
  have rD : (Pt.row L).drop (n * 2) = Pt.row D := by rw [hD]; exact Pt.row_drop L n
  have ca : ∀ z st, Rets P F.q40 [.list false (Pt.row A) n, .int z] st (.tuple [.int (atV (q56 A) z), .int 0]) := fun z st => by
   rw [← hAl]
   exact j6l false A (by omega) hg z st
  have hDl2 : D.length ≤ 1000 := by omega
  have hnL : (n : Int) ≤ L.length := by omega
  clear hA hD hg hAl
  repeat' (simp -dsimp -implicitDefEqProofs [*])
  refine q5g (fun i : Nat => [(3, .ptr q 0), (8, Pt.lst false L), (53, Pt.lst false D), (54, .int D.length), (55, .int i)]) (fun _ => (q, k6h s) :: st) (fun i => i ≤ D.length ∧ Hid (∀ k (h : k < D.length), k < i → atV (q56 A) D[k].X = D[k].Y)) (fun i => D.length - i) 0 ⟨Nat.zero_le _, ⟨fun k _ h => absurd h (by omega)⟩⟩ (by simp) (.refl _) ?_
  rintro i ⟨hi, hI⟩
  by_cases hil : i < D.length
  ·have hw := q5h (n := i) (by omega)
   have s0 := Pt.row_sub D i hil
   have hk : i * 2 < D.length * 2 := by omega
   have c1 := ca D[i].X
   have hI2 : Hid (atV (q56 A) D[i].X = D[i].Y → ∀ k (h : k < D.length), k < i + 1 → atV (q56 A) D[k].X = D[k].Y) := ⟨fun h k hk h2 => if e : k = i then by subst e; exact h else hI.out k hk (by omega)⟩
   have hno : Hid (¬ atV (q56 A) D[i].X = D[i].Y → W = none) := ⟨fun h => by
    rw [hW.out, if_neg]
    intro e
    exact h (of_decide_eq_true (List.all_eq_true.1 e _ (List.getElem_mem hil)))⟩
   obtain ⟨p, hp⟩ : ∃ p, p = D[i] := ⟨_, rfl⟩
   rw [← hp] at s0 c1 hI2 hno
   obtain ⟨v, hv⟩ : ∃ v, v = atV (q56 A) p.X := ⟨_, rfl⟩
   rw [← hv] at c1 hI2 hno
   clear hp hv hI hW ca
   by_cases e : v = p.Y
   ·have hI3 := Hid.mk (hI2.out e)
    clear hI2 hno
    repeat' (first 
     | (with_reducible refine Fresh.intro fun b hb => ?_) <;> (try simp -dsimp -implicitDefEqProofs [*] at hb)
     | (with_reducible refine Rets.xcall (c1 _) ?_)
     | (with_reducible refine DrawLate.intro [] ?_)
     | (simp -dsimp -implicitDefEqProofs [*]))
    exact Next.intro (i + 1) ⟨by omega, hI3⟩ (by omega) (by simp) q5q
   ·have e2 := hno.out e
    subst e2
    clear hI2 hno
    repeat' (first 
     | (with_reducible refine Fresh.intro fun b hb => ?_) <;> (try simp -dsimp -implicitDefEqProofs [*] at hb)
     | (with_reducible refine Rets.xcall (c1 _) ?_)
     | (with_reducible refine DrawLate.intro [] ?_)
     | (simp -dsimp -implicitDefEqProofs [*]))
    exact RetView.drop (st' := st) q5q ⟨rfl, rfl⟩
  ·obtain rfl : i = D.length := by omega
   have e : W = some (atV (q56 A) 0) := by
    rw [hW.out, if_pos]
    refine List.all_eq_true.2 fun p hp => ?_
    obtain ⟨k, hk, rfl⟩ := List.mem_iff_getElem.1 hp
    exact decide_eq_true (hI.out k hk hk)
   have c1 := ca 0
   rw [e]
   clear hW hI ca e
   repeat' (first 
    | (with_reducible refine Rets.xcall (c1 _) ?_)
    | (simp -dsimp -implicitDefEqProofs [*]))
   exact RetView.drop (st' := st) q5q ⟨rfl, rfl⟩
 ·rintro ⟨i, o⟩ ⟨hi, ho, hA⟩ hi2
  replace hi : i ≤ ks.length := hi
  replace ho : accOk Pt.row 2 ((q, k6h s) :: st) o := ho
  replace hi2 : ¬ i = ks.length := hi2
  replace hA : q5y o = k6j j c (ks.take i) := hA
  simp only [KE]
  have hil : i < ks.length := by omega
  have kv := Hid.mk (KV q j c ks ((q, k6h s) :: st))
  have hw := q5h (n := i) (by omega)
  have hi4 : i * 4 < ks.length * 4 := by omega
  have s0 := Sh.row_sub ks i hil
  have hst := z5p (j := j) (c := c) hil
  have hlen : (q5y o).length ≤ ks.length := by
   rw [hA]
   unfold k6j
   rw [List.length_map]
   exact Nat.le_trans (List.length_filter_le _ _) (by rw [List.length_take]; omega)
  have hb := hh.out ks[i] (List.getElem_mem hil)
  rw [← hA] at hst
  obtain ⟨x, hx⟩ : ∃ x, x = ks[i] := ⟨_, rfl⟩
  rw [← hx] at s0 hst hb
  have hwh := q5m (n := x.h + 1) (by omega) (by omega)
  clear hx hA hi2 hW hh hg hks
  by_cases e1 : x.o = j
  case neg =>
   rw [if_neg (fun h => e1 h.1)] at hst
   replace hst := Hid.mk hst
   repeat' (first 
    | (with_reducible refine Fresh.intro fun b hb => ?_) <;> (try simp -dsimp -implicitDefEqProofs [*] at hb)
    | (simp -dsimp -implicitDefEqProofs [*]))
   exact NextF.intro kv.out (i + 1, o) ⟨by simp only; omega, ho, hst.out.symm⟩ (by simp only; omega) (by simp [KE]) q5q
  by_cases e2 : x.c = c
  case neg =>
   rw [if_neg (fun h => e2 h.2)] at hst
   replace hst := Hid.mk hst
   repeat' (first 
    | (with_reducible refine Fresh.intro fun b hb => ?_) <;> (try simp -dsimp -implicitDefEqProofs [*] at hb)
    | (simp -dsimp -implicitDefEqProofs [*]))
   exact NextF.intro kv.out (i + 1, o) ⟨by simp only; omega, ho, hst.out.symm⟩ (by simp only; omega) (by simp [KE]) q5q
  rw [if_pos ⟨e1, e2⟩] at hst
  replace hst := Hid.mk hst
  repeat' (first 
   | (with_reducible refine Fresh.intro fun b hb => ?_) <;> (try simp -dsimp -implicitDefEqProofs [*] at hb)
   | (with_reducible refine Lit.imm ?_)
   | (simp -dsimp -implicitDefEqProofs [*]))
  refine xappend_box Pt.row_len Pt.row_append o ho hb [ptK x] (by simp [Pt.enc]) rfl (by omega) (by omega) fun o2 ho2 hl2 => ?_
  have k1 : Hid (q5y o2 = k6j j c (ks.take (i + 1))) := ⟨by rw [hl2, hst.out]⟩
  clear hl2 hst
  repeat' (simp -dsimp -implicitDefEqProofs [*])
  exact NextF.intro kv.out (i + 1, o2) ⟨by simp only; omega, ho2.unbox, k1.out⟩ (by simp only; omega) (by simp [KE]) (StLe.box o2 (accB_new hb).2)
end Go.Proofs.YtnooplpbpfiapaaGreatDoor
