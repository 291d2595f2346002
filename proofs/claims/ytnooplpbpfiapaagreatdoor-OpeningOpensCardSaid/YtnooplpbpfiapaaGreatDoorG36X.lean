/- What acts do to a session, by the program. -/
import Derived.Test.YtnooplpbpfiapaaGreatDoorG36T
import Derived.Test.YtnooplpbpfiapaaGreatDoorG36N
namespace Go.Proofs.YtnooplpbpfiapaaGreatDoor
open Go.Pv
set_option maxRecDepth 100000
set_option maxHeartbeats 8000000
abbrev k4a (s : Ses) : PObj := .arr T.q31 s.enc
abbrev j4m (e : Int) : PV := .iface T.openingstop (.agg [.int e])
def z1n (s : Ses) (a : Act) : Bool := decide (s.time ≤ a.time) && decide (a.time < 2097152)
theorem j8o (s : Ses) (a : Act) (h : z1n s a = true) (y : Nat) (st : q37) (hy : q5p st y) : Does P F.q1h [.ptr y 0, a.pv] ((y, k4a s) :: st) (.tuple []) ((y, k4a { s with time := a.time }) :: st) := by
 unfold z1n at h
 simp only [Bool.and_eq_true, decide_eq_true_eq] at h
 obtain ⟨h1, h2⟩ := h
 refine H.q1h.view q4m rfl rfl ?_
 repeat' (first 
  | (with_reducible refine Fresh.intro fun b hb => ?_) <;> (try simp -dsimp -implicitDefEqProofs [*] at hb)
  | (with_reducible refine Rets.xcall (q49 _ _) ?_)
  | (simp -dsimp -implicitDefEqProofs [*]))
 exact RetView.drop (st' := (y, k4a { s with time := a.time }) :: st) q4p ⟨rfl, rfl⟩
theorem j8p (s : Ses) (a : Act) (h : z1n s a = false) (y : Nat) (st : q37) (_hy : q5p st y) : Panics P F.q1h [.ptr y 0, a.pv] ((y, k4a s) :: st) (j4m 1) := by
 unfold z1n at h
 refine H.q1h.panics q4m rfl rfl ?_
 by_cases h1 : s.time ≤ a.time
 ·have h2 : ¬ a.time < 2097152 := fun h2 => by rw [decide_eq_true h1, decide_eq_true h2] at h; cases h
  clear h
  repeat' (first 
   | (with_reducible refine Fresh.intro fun b hb => ?_) <;> (try simp -dsimp -implicitDefEqProofs [*] at hb)
   | (with_reducible refine Panics.xcall (q6u _ _) ?_)
   | (simp -dsimp -implicitDefEqProofs [*]))
 ·clear h
  repeat' (first 
   | (with_reducible refine Fresh.intro fun b hb => ?_) <;> (try simp -dsimp -implicitDefEqProofs [*] at hb)
   | (with_reducible refine Panics.xcall (q6u _ _) ?_)
   | (simp -dsimp -implicitDefEqProofs [*]))
def y5d (s : Ses) (x : Card) : Option (List Card) := k54 (fun y => q9a y.j x.j) (fun y => k8r y x) s.sealed x
def y5e (s : Ses) (x : Sh) : Option (List Sh) := k54 (fun y => k0o y x) (fun y => decide (y = x)) s.keys x
def y5f (s : Ses) (x : Shn) : Option (List Shn) := k54 (fun y => q9a y.j x.j) (fun y => k8s y x) s.shown x
def k4b (s : Ses) (x : Card) : List Card ⊕ Int := if q6g s = true then .inr 360 else if q8g s x = true then (match y5d s x with
 | some l => .inl l
 | none => .inr 141) else .inr 1
def q98 (s : Ses) (x : Sh) : List Sh ⊕ Int := if q6g s = true then (if q6q s x = true then (match y5e s x with
 | some l => .inl l
 | none => .inr 141) else .inr 1) else .inr 360
def k4c (s : Ses) (x : Shn) : List Shn ⊕ Int := if q6g s = true then (if q7u s x = true then (match y5f s x with
 | some l => .inl l
 | none => .inr 141) else .inr 1) else .inr 360
theorem j8q (s : Ses) (hL : s.Len) (hr : q4v cJ s.sealed = true) (hl : s.sealed.length ≤ 1000) (a : Act) (ha : a.card.c.length ≤ 100000) (M : List Card) (h : k4b s a.card = .inl M) (y : Nat) (st : q37) (hy : q5p st y) : Does P F.q1i [.ptr y 0, a.pv] ((y, k4a s) :: st) (.tuple []) ((y, k4a { s with sealed := M }) :: st) := by
 have c1 := q6v s
 have c2 := k4z s hL.judges a.card ha
 have c3 := fun hM => j8g F.q2d F.q2k (fun y => q9a y.j a.card.j) (fun y => k8r y a.card) s.sealed a.card hl (k4y hr a.card.j) (fun y _ st => k2x y a.card st) (fun y hy st => k37 y a.card (by have := hL.cards y hy; omega) st) M hM
 unfold k4b y5d at h
 generalize q6g s = O at *
 generalize q8g s a.card = S at *
 cases O with
 | true => simp at h
 | false =>
  cases S with
  | false => simp at h
  | true =>
   simp only [Bool.false_eq_true, if_false, if_true] at h
   have hM : k54 (fun y => q9a y.j a.card.j) (fun y => k8r y a.card) s.sealed a.card = some M := by
    split at h
    ·rename_i l hl; rw [hl]; congr 1; exact Sum.inl.inj h
    ·cases h
   have c3 := c3 hM
   clear h hM hL hr ha
   refine H.q1i.view q4m rfl rfl ?_
   repeat' (first 
    | (with_reducible refine Fresh.intro fun b hb => ?_) <;> (try simp -dsimp -implicitDefEqProofs [*] at hb)
    | (with_reducible refine Rets.xcall (c1 _) ?_)
    | (with_reducible refine Rets.xcall (c2 _) ?_)
    | (with_reducible refine Rets.xcall (c3 _) ?_)
    | (with_reducible refine Rets.xcall (q49 _ _) ?_)
    | (with_reducible refine DrawLate.intro [] ?_)
    | (simp -dsimp -implicitDefEqProofs [*]))
   exact RetView.drop (st' := (y, k4a { s with sealed := M }) :: st) q4p ⟨rfl, rfl⟩
theorem j8r (s : Ses) (hL : s.Len) (hr : q4v cJ s.sealed = true) (hl : s.sealed.length ≤ 1000) (a : Act) (ha : a.card.c.length ≤ 100000) (E : Int) (h : k4b s a.card = .inr E) (y : Nat) (st : q37) (_hy : q5p st y) : Panics P F.q1i [.ptr y 0, a.pv] ((y, k4a s) :: st) (j4m E) := by
 have c1 := q6v s
 have c2 := k4z s hL.judges a.card ha
 have c3 := fun hM => j8h F.q2d F.q2k (fun y => q9a y.j a.card.j) (fun y => k8r y a.card) s.sealed a.card hl (k4y hr a.card.j) (fun y _ st => k2x y a.card st) (fun y hy st => k37 y a.card (by have := hL.cards y hy; omega) st) hM
 unfold k4b y5d at h
 generalize q6g s = O at *
 generalize q8g s a.card = S at *
 refine H.q1i.panics q4m rfl rfl ?_
 cases O with
 | true =>
  simp only [if_true, Sum.inr.injEq] at h
  subst h
  clear hL hr ha c3
  repeat' (first 
   | (with_reducible refine Fresh.intro fun b hb => ?_) <;> (try simp -dsimp -implicitDefEqProofs [*] at hb)
   | (with_reducible refine Rets.xcall (c1 _) ?_)
   | (with_reducible refine Panics.xcall (q6u _ _) ?_)
   | (simp -dsimp -implicitDefEqProofs [*]))
 | false =>
  cases S with
  | false =>
   simp only [Bool.false_eq_true, if_false, Sum.inr.injEq] at h
   subst h
   clear hL hr ha c3
   repeat' (first 
    | (with_reducible refine Fresh.intro fun b hb => ?_) <;> (try simp -dsimp -implicitDefEqProofs [*] at hb)
    | (with_reducible refine Rets.xcall (c1 _) ?_)
    | (with_reducible refine Rets.xcall (c2 _) ?_)
    | (with_reducible refine Rets.xcall (q49 _ _) ?_)
    | (with_reducible refine Panics.xcall (q6u _ _) ?_)
    | (simp -dsimp -implicitDefEqProofs [*]))
  | true =>
   simp only [Bool.false_eq_true, if_false, if_true] at h
   have hM : k54 (fun y => q9a y.j a.card.j) (fun y => k8r y a.card) s.sealed a.card = none ∧ E = 141 := by
    split at h
    ·cases h
    ·rename_i hl; exact ⟨hl, (Sum.inr.inj h).symm⟩
   obtain ⟨hM, rfl⟩ := hM
   have c3 := c3 hM
   clear h hM hL hr ha
   repeat' (first 
    | (with_reducible refine Fresh.intro fun b hb => ?_) <;> (try simp -dsimp -implicitDefEqProofs [*] at hb)
    | (with_reducible refine Rets.xcall (c1 _) ?_)
    | (with_reducible refine Rets.xcall (c2 _) ?_)
    | (with_reducible refine Panics.xcall (c3 _) ?_)
    | (with_reducible refine Rets.xcall (q49 _ _) ?_)
    | (with_reducible refine DrawLate.intro [] ?_)
    | (simp -dsimp -implicitDefEqProofs [*]))
open Go.Pv
set_option maxRecDepth 100000
set_option maxHeartbeats 8000000
theorem j4n (s : Ses) (hL : s.Len) (hr : q4v k0o s.keys = true) (hl : s.keys.length ≤ 1000) (a : Act) (M : List Sh) (h : q98 s a.key = .inl M) (y : Nat) (st : q37) (hy : q5p st y) : Does P F.q1b [.ptr y 0, a.pv] ((y, k4a s) :: st) (.tuple []) ((y, k4a { s with keys := M }) :: st) := by
 have c1 := q6v s
 have c2 := k20 s hL.judges a.key
 have c3 := fun hM => j8j F.q15 F.q2g (fun y => k0o y a.key) (fun y => decide (y = a.key)) s.keys a.key hl (k7u hr a.key) (fun y _ st => k1o y a.key st) (fun y _ st => k2f y a.key st) M hM
 unfold q98 y5e at h
 generalize q6g s = O at *
 generalize q6q s a.key = S at *
 cases O with
 | false => simp at h
 | true =>
  cases S with
  | false => simp at h
  | true =>
   simp only [Bool.false_eq_true, if_false, if_true] at h
   have hM : k54 (fun y => k0o y a.key) (fun y => decide (y = a.key)) s.keys a.key = some M := by
    split at h
    ·rename_i l hl; rw [hl]; congr 1; exact Sum.inl.inj h
    ·cases h
   have c3 := c3 hM
   clear h hM hL hr
   refine H.q1b.view q4m rfl rfl ?_
   repeat' (first 
    | (with_reducible refine Fresh.intro fun b hb => ?_) <;> (try simp -dsimp -implicitDefEqProofs [*] at hb)
    | (with_reducible refine Rets.xcall (c1 _) ?_)
    | (with_reducible refine Rets.xcall (c2 _) ?_)
    | (with_reducible refine Rets.xcall (c3 _) ?_)
    | (with_reducible refine Rets.xcall (q49 _ _) ?_)
    | (with_reducible refine DrawLate.intro [] ?_)
    | (simp -dsimp -implicitDefEqProofs [*]))
   exact RetView.drop (st' := (y, k4a { s with keys := M }) :: st) q4p ⟨rfl, rfl⟩
theorem j4o (s : Ses) (hL : s.Len) (hr : q4v k0o s.keys = true) (hl : s.keys.length ≤ 1000) (a : Act) (E : Int) (h : q98 s a.key = .inr E) (y : Nat) (st : q37) (_hy : q5p st y) : Panics P F.q1b [.ptr y 0, a.pv] ((y, k4a s) :: st) (j4m E) := by
 have c1 := q6v s
 have c2 := k20 s hL.judges a.key
 have c3 := fun hM => j8k F.q15 F.q2g (fun y => k0o y a.key) (fun y => decide (y = a.key)) s.keys a.key hl (k7u hr a.key) (fun y _ st => k1o y a.key st) (fun y _ st => k2f y a.key st) hM
 unfold q98 y5e at h
 generalize q6g s = O at *
 generalize q6q s a.key = S at *
 refine H.q1b.panics q4m rfl rfl ?_
 cases O with
 | false =>
  simp only [Bool.false_eq_true, if_false, Sum.inr.injEq] at h
  subst h
  clear hL hr c3
  repeat' (first 
   | (with_reducible refine Fresh.intro fun b hb => ?_) <;> (try simp -dsimp -implicitDefEqProofs [*] at hb)
   | (with_reducible refine Rets.xcall (c1 _) ?_)
   | (with_reducible refine Panics.xcall (q6u _ _) ?_)
   | (simp -dsimp -implicitDefEqProofs [*]))
 | true =>
  cases S with
  | false =>
   simp only [Bool.false_eq_true, if_false, if_true, Sum.inr.injEq] at h
   subst h
   clear hL hr c3
   repeat' (first 
    | (with_reducible refine Fresh.intro fun b hb => ?_) <;> (try simp -dsimp -implicitDefEqProofs [*] at hb)
    | (with_reducible refine Rets.xcall (c1 _) ?_)
    | (with_reducible refine Rets.xcall (c2 _) ?_)
    | (with_reducible refine Rets.xcall (q49 _ _) ?_)
    | (with_reducible refine Panics.xcall (q6u _ _) ?_)
    | (simp -dsimp -implicitDefEqProofs [*]))
  | true =>
   simp only [Bool.false_eq_true, if_false, if_true] at h
   have hM : k54 (fun y => k0o y a.key) (fun y => decide (y = a.key)) s.keys a.key = none ∧ E = 141 := by
    split at h
    ·cases h
    ·rename_i hl; exact ⟨hl, (Sum.inr.inj h).symm⟩
   obtain ⟨hM, rfl⟩ := hM
   have c3 := c3 hM
   clear h hM hL hr
   repeat' (first 
    | (with_reducible refine Fresh.intro fun b hb => ?_) <;> (try simp -dsimp -implicitDefEqProofs [*] at hb)
    | (with_reducible refine Rets.xcall (c1 _) ?_)
    | (with_reducible refine Rets.xcall (c2 _) ?_)
    | (with_reducible refine Panics.xcall (c3 _) ?_)
    | (with_reducible refine Rets.xcall (q49 _ _) ?_)
    | (with_reducible refine DrawLate.intro [] ?_)
    | (simp -dsimp -implicitDefEqProofs [*]))
theorem j8s (s : Ses) (hL : s.Len) (hr : q4v cJ s.sealed = true) (hr2 : q4v nJ s.shown = true) (hl : s.shown.length ≤ 1000) (a : Act) (ha : a.shown.k.length ≤ 100000) (M : List Shn) (h : k4c s a.shown = .inl M) (y : Nat) (st : q37) (hy : q5p st y) (hG : GL st) : Does P F.q1j [.ptr y 0, a.pv] ((y, k4a s) :: st) (.tuple []) ((y, k4a { s with shown := M }) :: st) := by
 have c1 := q6v s
 have hN := q46 hG.h0 hG.h1
 have h0 := hG.h0
 have h1 := hG.h1
 have hyN := hy
 rw [hN] at hyN
 have c2 := fun st h0 h1 => k40 s hL.sealed hL.cards hr a.shown ha st ⟨h0, h1⟩
 have c3 := fun hM => j8m F.q16 F.q2h (fun y => q9a y.j a.shown.j) (fun y => k8s y a.shown) s.shown a.shown hl (k2z hr2 a.shown.j) (fun y _ st => k1n y a.shown st) (fun y hy st => k2e y a.shown (by have := hL.given y hy; omega) st) M hM
 unfold k4c y5f at h
 generalize q6g s = O at *
 generalize q7u s a.shown = S at *
 cases O with
 | false => simp at h
 | true =>
  cases S with
  | false => simp at h
  | true =>
   simp only [Bool.false_eq_true, if_false, if_true] at h
   have hM : k54 (fun y => q9a y.j a.shown.j) (fun y => k8s y a.shown) s.shown a.shown = some M := by
    split at h
    ·rename_i l hl; rw [hl]; congr 1; exact Sum.inl.inj h
    ·cases h
   have c3 := c3 hM
   clear h hM hL hr hr2 ha hG
   refine H.q1j.view q4m rfl rfl ?_
   repeat' (first 
    | (with_reducible refine Fresh.intro fun b hb => ?_) <;> (try simp -dsimp -implicitDefEqProofs [*] at hb)
    | (with_reducible refine Rets.xcall (c1 _) ?_)
    | (with_reducible refine Rets.xcall (c2 _ (by simp [*]) (by simp [*])) ?_)
    | (with_reducible refine Rets.xcall (c3 _) ?_)
    | (with_reducible refine Rets.xcall (q49 _ _) ?_)
    | (with_reducible refine DrawLate.intro [] ?_)
    | (simp -dsimp -implicitDefEqProofs [*]))
   exact RetView.drop (st' := (y, k4a { s with shown := M }) :: st) q4p ⟨rfl, rfl⟩
theorem j8t (s : Ses) (hL : s.Len) (hr : q4v cJ s.sealed = true) (hr2 : q4v nJ s.shown = true) (hl : s.shown.length ≤ 1000) (a : Act) (ha : a.shown.k.length ≤ 100000) (E : Int) (h : k4c s a.shown = .inr E) (y : Nat) (st : q37) (hy : q5p st y) (hG : GL st) : Panics P F.q1j [.ptr y 0, a.pv] ((y, k4a s) :: st) (j4m E) := by
 have c1 := q6v s
 have hN := q46 hG.h0 hG.h1
 have h0 := hG.h0
 have h1 := hG.h1
 have hyN := hy
 rw [hN] at hyN
 have c2 := fun st h0 h1 => k40 s hL.sealed hL.cards hr a.shown ha st ⟨h0, h1⟩
 have c3 := fun hM => j8n F.q16 F.q2h (fun y => q9a y.j a.shown.j) (fun y => k8s y a.shown) s.shown a.shown hl (k2z hr2 a.shown.j) (fun y _ st => k1n y a.shown st) (fun y hy st => k2e y a.shown (by have := hL.given y hy; omega) st) hM
 unfold k4c y5f at h
 generalize q6g s = O at *
 generalize q7u s a.shown = S at *
 refine H.q1j.panics q4m rfl rfl ?_
 cases O with
 | false =>
  simp only [Bool.false_eq_true, if_false, Sum.inr.injEq] at h
  subst h
  clear hL hr hr2 ha hG c3
  repeat' (first 
   | (with_reducible refine Fresh.intro fun b hb => ?_) <;> (try simp -dsimp -implicitDefEqProofs [*] at hb)
   | (with_reducible refine Rets.xcall (c1 _) ?_)
   | (with_reducible refine Panics.xcall (q6u _ _) ?_)
   | (simp -dsimp -implicitDefEqProofs [*]))
 | true =>
  cases S with
  | false =>
   simp only [Bool.false_eq_true, if_false, if_true, Sum.inr.injEq] at h
   subst h
   clear hL hr hr2 ha hG c3
   repeat' (first 
    | (with_reducible refine Fresh.intro fun b hb => ?_) <;> (try simp -dsimp -implicitDefEqProofs [*] at hb)
    | (with_reducible refine Rets.xcall (c1 _) ?_)
    | (with_reducible refine Rets.xcall (c2 _ (by simp [*]) (by simp [*])) ?_)
    | (with_reducible refine Rets.xcall (q49 _ _) ?_)
    | (with_reducible refine Panics.xcall (q6u _ _) ?_)
    | (simp -dsimp -implicitDefEqProofs [*]))
  | true =>
   simp only [Bool.false_eq_true, if_false, if_true] at h
   have hM : k54 (fun y => q9a y.j a.shown.j) (fun y => k8s y a.shown) s.shown a.shown = none ∧ E = 141 := by
    split at h
    ·cases h
    ·rename_i hl; exact ⟨hl, (Sum.inr.inj h).symm⟩
   obtain ⟨hM, rfl⟩ := hM
   have c3 := c3 hM
   clear h hM hL hr hr2 ha hG
   repeat' (first 
    | (with_reducible refine Fresh.intro fun b hb => ?_) <;> (try simp -dsimp -implicitDefEqProofs [*] at hb)
    | (with_reducible refine Rets.xcall (c1 _) ?_)
    | (with_reducible refine Rets.xcall (c2 _ (by simp [*]) (by simp [*])) ?_)
    | (with_reducible refine Panics.xcall (c3 _) ?_)
    | (with_reducible refine Rets.xcall (q49 _ _) ?_)
    | (with_reducible refine DrawLate.intro [] ?_)
    | (simp -dsimp -implicitDefEqProofs [*]))
open Go.Pv
set_option maxRecDepth 100000
set_option maxHeartbeats 8000000
def doR (s : Ses) (a : Act) : Ses ⊕ Int :=
 if q5f s = true then
  (if a.kind = 1 then (if z1n s a = true then .inl { s with time := a.time } else .inr 1)
  else if a.kind = 2 then (match k4b s a.card with
   | .inl l => .inl { s with sealed := l }
   | .inr e => .inr e)
  else if a.kind = 3 then (match q98 s a.key with
   | .inl l => .inl { s with keys := l }
   | .inr e => .inr e)
  else if a.kind = 4 then (match k4c s a.shown with
   | .inl l => .inl { s with shown := l }
   | .inr e => .inr e)
  else .inr 1)
 else .inr 360
def doS (s : Ses) (a : Act) : Ses := match doR s a with
 | .inl x => x
 | .inr _ => zeroSes
def doE (s : Ses) (a : Act) : Int := match doR s a with
 | .inl _ => 0
 | .inr e => e
theorem z62 (s : Ses) (hL : s.Len) (a : Act) (ha : a.card.c.length ≤ 100000) (ha2 : a.shown.k.length ≤ 100000) (hl : s.sealed.length ≤ 1000 ∧ s.keys.length ≤ 1000 ∧ s.shown.length ≤ 1000) (st : q37) (hG : GL st) : Rets P F.q03 [s.pv, a.pv] st (.tuple [(doS s a).pv, .int (doE s a)]) := by
 have hN := q46 hG.h0 hG.h1
 have h0 := hG.h0
 have h1 := hG.h1
 have c := fun st h0 h1 => q89 s hL st ⟨h0, h1⟩
 obtain ⟨S, hS⟩ : ∃ S, S = doS s a := ⟨_, rfl⟩
 obtain ⟨E, hE⟩ : ∃ E, E = doE s a := ⟨_, rfl⟩
 rw [← hS, ← hE]
 unfold doS at hS
 unfold doE at hE
 refine H.q03.view q4m rfl rfl ?_
 by_cases hR : q5f s = true
 case neg =>
  have e : doR s a = .inr 360 := by unfold doR; rw [if_neg hR]
  rw [e] at hS hE
  simp only at hS hE
  subst hS
  subst hE
  rw [if_neg hR] at c
  clear hR e hL hG
  repeat' (first 
   | (with_reducible refine Fresh.intro fun b hb => ?_) <;> (try simp -dsimp -implicitDefEqProofs [*] at hb)
   | (with_reducible refine Rets.xcall (c _ (by simp [*]) (by simp [*])) ?_)
   | (with_reducible refine Panics.xcall (q6u _ _) ?_)
   | (with_reducible refine Defs.xdef (q75 _ _ 0 _ (by simp [*])) ?_)
   | (simp -dsimp -implicitDefEqProofs [H.q0q.enters, *]))
  repeat' (simp -dsimp -implicitDefEqProofs [q8e, *])
  exact RetView.le (PLe.tuple2 q7i (.refl _)) (RetView.drop (st' := st) q4p ⟨rfl, rfl⟩)
 rw [if_pos hR] at c
 have hrb := hR
 unfold q5f at hrb
 simp only [Bool.and_eq_true] at hrb
 have hr1 : q4v cJ s.sealed = true := hrb.2.2.1.1
 have hr2 : q4v k0o s.keys = true := hrb.2.2.2.1.1
 have hr3 : q4v nJ s.shown = true := hrb.2.2.2.2.1.1
 clear hrb
 by_cases k1 : a.kind = 1
 ·cases hp : z1n s a with
  | false =>
   have e : doR s a = .inr 1 := by unfold doR; rw [if_pos hR, if_pos k1, if_neg (by simp [hp])]
   rw [e] at hS hE
   simp only at hS hE
   subst hS
   subst hE
   have m := fun y st hy => j8p s a hp y st hy
   clear hR e hL hG hr1 hr2 hr3 hp
   repeat' (first 
    | (with_reducible refine Fresh.intro fun b hb => ?_) <;> (try simp -dsimp -implicitDefEqProofs [*] at hb)
    | (with_reducible refine Rets.xcall (c _ (by simp [*]) (by simp [*])) ?_)
    | (with_reducible refine Rets.xcall (q49 _ _) ?_)
    | (with_reducible refine Panics.xcall (m _ _ (by simp [*])) ?_)
    | (with_reducible refine Defs.xdef (q75 _ _ 0 _ (by simp [*])) ?_)
    | (simp -dsimp -implicitDefEqProofs [H.q0q.enters, *]))
   repeat' (simp -dsimp -implicitDefEqProofs [q8e, *])
   exact RetView.le (PLe.tuple2 q7i (.refl _)) (RetView.drop (st' := st) q4p ⟨rfl, rfl⟩)
  | true =>
   have e : doR s a = .inl { s with time := a.time } := by unfold doR; rw [if_pos hR, if_pos k1, if_pos hp]
   rw [e] at hS hE
   simp only at hS hE
   have m := fun y st hy => j8o s a hp y st hy
   rw [← hS] at m
   subst hE
   clear hR e hL hG hr1 hr2 hr3 hp hS
   repeat' (first 
    | (with_reducible refine Fresh.intro fun b hb => ?_) <;> (try simp -dsimp -implicitDefEqProofs [*] at hb)
    | (with_reducible refine Rets.xcall (c _ (by simp [*]) (by simp [*])) ?_)
    | (with_reducible refine Rets.xcall (q49 _ _) ?_)
    | (with_reducible refine Does.xcall (m _ _ (by simp [*])) ?_)
    | (with_reducible refine Defs.xdef (k0n _ _) ?_)
    | (simp -dsimp -implicitDefEqProofs [H.q0q.enters, *]))
   skip
   exact RetView.drop (st' := st) q4p ⟨rfl, rfl⟩
 by_cases k2 : a.kind = 2
 ·cases hp : k4b s a.card with
  | inr v =>
   have e : doR s a = .inr v := by unfold doR; rw [if_pos hR, if_neg k1, if_pos k2, hp]
   rw [e] at hS hE
   simp only at hS hE
   have m := j8r s hL hr1 hl.1 a ha v hp
   subst hS
   subst hE
   clear hR e hL hG hr1 hr2 hr3 hp
   repeat' (first 
    | (with_reducible refine Fresh.intro fun b hb => ?_) <;> (try simp -dsimp -implicitDefEqProofs [*] at hb)
    | (with_reducible refine Rets.xcall (c _ (by simp [*]) (by simp [*])) ?_)
    | (with_reducible refine Rets.xcall (q49 _ _) ?_)
    | (with_reducible refine Panics.xcall (m _ _ (by simp [*])) ?_)
    | (with_reducible refine Defs.xdef (q75 _ _ 0 _ (by simp [*])) ?_)
    | (simp -dsimp -implicitDefEqProofs [H.q0q.enters, *]))
   repeat' (simp -dsimp -implicitDefEqProofs [q8e, *])
   exact RetView.le (PLe.tuple2 q7i (.refl _)) (RetView.drop (st' := st) q4p ⟨rfl, rfl⟩)
  | inl v =>
   have e : doR s a = .inl { s with sealed := v } := by unfold doR; rw [if_pos hR, if_neg k1, if_pos k2, hp]
   rw [e] at hS hE
   simp only at hS hE
   have m := j8q s hL hr1 hl.1 a ha v hp
   rw [← hS] at m
   subst hE
   clear hR e hL hG hr1 hr2 hr3 hp hS
   repeat' (first 
    | (with_reducible refine Fresh.intro fun b hb => ?_) <;> (try simp -dsimp -implicitDefEqProofs [*] at hb)
    | (with_reducible refine Rets.xcall (c _ (by simp [*]) (by simp [*])) ?_)
    | (with_reducible refine Rets.xcall (q49 _ _) ?_)
    | (with_reducible refine Does.xcall (m _ _ (by simp [*])) ?_)
    | (with_reducible refine Defs.xdef (k0n _ _) ?_)
    | (simp -dsimp -implicitDefEqProofs [H.q0q.enters, *]))
   skip
   exact RetView.drop (st' := st) q4p ⟨rfl, rfl⟩
 by_cases k3 : a.kind = 3
 ·cases hp : q98 s a.key with
  | inr v =>
   have e : doR s a = .inr v := by unfold doR; rw [if_pos hR, if_neg k1, if_neg k2, if_pos k3, hp]
   rw [e] at hS hE
   simp only at hS hE
   have m := j4o s hL hr2 hl.2.1 a v hp
   subst hS
   subst hE
   clear hR e hL hG hr1 hr2 hr3 hp
   repeat' (first 
    | (with_reducible refine Fresh.intro fun b hb => ?_) <;> (try simp -dsimp -implicitDefEqProofs [*] at hb)
    | (with_reducible refine Rets.xcall (c _ (by simp [*]) (by simp [*])) ?_)
    | (with_reducible refine Rets.xcall (q49 _ _) ?_)
    | (with_reducible refine Panics.xcall (m _ _ (by simp [*])) ?_)
    | (with_reducible refine Defs.xdef (q75 _ _ 0 _ (by simp [*])) ?_)
    | (simp -dsimp -implicitDefEqProofs [H.q0q.enters, *]))
   repeat' (simp -dsimp -implicitDefEqProofs [q8e, *])
   exact RetView.le (PLe.tuple2 q7i (.refl _)) (RetView.drop (st' := st) q4p ⟨rfl, rfl⟩)
  | inl v =>
   have e : doR s a = .inl { s with keys := v } := by unfold doR; rw [if_pos hR, if_neg k1, if_neg k2, if_pos k3, hp]
   rw [e] at hS hE
   simp only at hS hE
   have m := j4n s hL hr2 hl.2.1 a v hp
   rw [← hS] at m
   subst hE
   clear hR e hL hG hr1 hr2 hr3 hp hS
   repeat' (first 
    | (with_reducible refine Fresh.intro fun b hb => ?_) <;> (try simp -dsimp -implicitDefEqProofs [*] at hb)
    | (with_reducible refine Rets.xcall (c _ (by simp [*]) (by simp [*])) ?_)
    | (with_reducible refine Rets.xcall (q49 _ _) ?_)
    | (with_reducible refine Does.xcall (m _ _ (by simp [*])) ?_)
    | (with_reducible refine Defs.xdef (k0n _ _) ?_)
    | (simp -dsimp -implicitDefEqProofs [H.q0q.enters, *]))
   skip
   exact RetView.drop (st' := st) q4p ⟨rfl, rfl⟩
 by_cases k4 : a.kind = 4
 ·cases hp : k4c s a.shown with
  | inr v =>
   have e : doR s a = .inr v := by unfold doR; rw [if_pos hR, if_neg k1, if_neg k2, if_neg k3, if_pos k4, hp]
   rw [e] at hS hE
   simp only at hS hE
   have m := j8t s hL hr1 hr3 hl.2.2 a ha2 v hp
   subst hS
   subst hE
   clear hR e hL hG hr1 hr2 hr3 hp
   repeat' (first 
    | (with_reducible refine Fresh.intro fun b hb => ?_) <;> (try simp -dsimp -implicitDefEqProofs [*] at hb)
    | (with_reducible refine Rets.xcall (c _ (by simp [*]) (by simp [*])) ?_)
    | (with_reducible refine Rets.xcall (q49 _ _) ?_)
    | (with_reducible refine Panics.xcall (m _ _ (by simp [*]) ⟨by simp [*], by simp [*]⟩) ?_)
    | (with_reducible refine Defs.xdef (q75 _ _ 0 _ (by simp [*])) ?_)
    | (simp -dsimp -implicitDefEqProofs [H.q0q.enters, *]))
   repeat' (simp -dsimp -implicitDefEqProofs [q8e, *])
   exact RetView.le (PLe.tuple2 q7i (.refl _)) (RetView.drop (st' := st) q4p ⟨rfl, rfl⟩)
  | inl v =>
   have e : doR s a = .inl { s with shown := v } := by unfold doR; rw [if_pos hR, if_neg k1, if_neg k2, if_neg k3, if_pos k4, hp]
   rw [e] at hS hE
   simp only at hS hE
   have m := j8s s hL hr1 hr3 hl.2.2 a ha2 v hp
   rw [← hS] at m
   subst hE
   clear hR e hL hG hr1 hr2 hr3 hp hS
   repeat' (first 
    | (with_reducible refine Fresh.intro fun b hb => ?_) <;> (try simp -dsimp -implicitDefEqProofs [*] at hb)
    | (with_reducible refine Rets.xcall (c _ (by simp [*]) (by simp [*])) ?_)
    | (with_reducible refine Rets.xcall (q49 _ _) ?_)
    | (with_reducible refine Does.xcall (m _ _ (by simp [*]) ⟨by simp [*], by simp [*]⟩) ?_)
    | (with_reducible refine Defs.xdef (k0n _ _) ?_)
    | (simp -dsimp -implicitDefEqProofs [H.q0q.enters, *]))
   skip
   exact RetView.drop (st' := st) q4p ⟨rfl, rfl⟩
 have e : doR s a = .inr 1 := by unfold doR; rw [if_pos hR, if_neg k1, if_neg k2, if_neg k3, if_neg k4]
 rw [e] at hS hE
 simp only at hS hE
 subst hS
 subst hE
 clear hR e hL hG hr1 hr2 hr3
 repeat' (first 
  | (with_reducible refine Fresh.intro fun b hb => ?_) <;> (try simp -dsimp -implicitDefEqProofs [*] at hb)
  | (with_reducible refine Rets.xcall (c _ (by simp [*]) (by simp [*])) ?_)
  | (with_reducible refine Rets.xcall (q49 _ _) ?_)
  | (with_reducible refine Panics.xcall (q6u _ _) ?_)
  | (with_reducible refine Defs.xdef (q75 _ _ 0 _ (by simp [*])) ?_)
  | (simp -dsimp -implicitDefEqProofs [H.q0q.enters, *]))
 repeat' (simp -dsimp -implicitDefEqProofs [q8e, *])
 exact RetView.le (PLe.tuple2 q7i (.refl _)) (RetView.drop (st' := st) q4p ⟨rfl, rfl⟩)
open Go.Pv
set_option maxRecDepth 100000
section
variable {α : Type}
structure Kc (c : α → α → Int) : Prop where
 tr : ∀ x y z, c x y < 0 → c y z < 0 → c x z < 0
 sw : ∀ x y, 0 < c x y ↔ c y x < 0
 eq : ∀ x y z, c x y = 0 → (c z x < 0 ↔ c z y < 0)
theorem Kc.irr {c : α → α → Int} (h : Kc c) (x : α) : ¬ c x x < 0 := fun k => by
 have := (h.sw x x).2 k
 omega
theorem Kc.same {c : α → α → Int} (h : Kc c) {l : List α} (hs : l.Pairwise fun x y => c x y < 0) {y z : α} (hy : y ∈ l) (hz : z ∈ l) (e : c y z = 0) : y = z := by
 obtain ⟨i, hi, rfl⟩ := List.mem_iff_getElem.1 hy
 obtain ⟨k, hk, rfl⟩ := List.mem_iff_getElem.1 hz
 rcases Nat.lt_trichotomy i k with h1 | rfl | h1
 ·have := List.pairwise_iff_getElem.1 hs i k hi hk h1
  omega
 ·rfl
 ·have := (h.sw _ _).2 (List.pairwise_iff_getElem.1 hs k i hk hi h1)
  omega
theorem Kc.ext {c : α → α → Int} (h : Kc c) : ∀ {l m : List α}, l.Pairwise (fun x y => c x y < 0) → m.Pairwise (fun x y => c x y < 0) → (∀ y, y ∈ l ↔ y ∈ m) → l = m
 | [], [], _, _, _ => rfl
 | [], b :: m, _, _, he => absurd ((he b).2 (List.mem_cons_self ..)) (by simp)
 | a :: l, [], _, _, he => absurd ((he a).1 (List.mem_cons_self ..)) (by simp)
 | a :: l, b :: m, hl, hm, he => by
  rw [List.pairwise_cons] at hl hm
  have hab : a = b := by
   rcases List.mem_cons.1 ((he a).1 (List.mem_cons_self ..)) with e | e
   ·exact e
   rcases List.mem_cons.1 ((he b).2 (List.mem_cons_self ..)) with e2 | e2
   ·exact e2.symm
   exact absurd (h.tr _ _ _ (hl.1 _ e2) (hm.1 _ e)) (h.irr a)
  subst hab
  congr 1
  refine Kc.ext h hl.2 hm.2 fun y => ?_
  constructor
  ·intro hy
   rcases List.mem_cons.1 ((he y).1 (List.mem_cons_of_mem _ hy)) with e | e
   ·subst e; exact absurd (hl.1 _ hy) (h.irr _)
   ·exact e
  ·intro hy
   rcases List.mem_cons.1 ((he y).2 (List.mem_cons_of_mem _ hy)) with e | e
   ·subst e; exact absurd (hm.1 _ hy) (h.irr _)
   ·exact e
theorem j1s {d : α → Int} {l : List α} {k : Nat} (h : k < q8q d l) (hk : k < l.length) : d l[k] < 0 := by
 have := List.not_of_lt_findIdx h
 simpa using this
theorem Kc.up {c : α → α → Int} (h : Kc c) {l : List α} (hs : l.Pairwise fun x y => c x y < 0) (x : α) {k : Nat} (h1 : q8q (fun y => c y x) l ≤ k) (hk : k < l.length) : 0 ≤ c l[k] x := by
 have h3 : q8q (fun y => c y x) l < l.length := by omega
 have h2 : 0 ≤ c (l[q8q (fun y => c y x) l]) x := by
  exact of_decide_eq_true (List.findIdx_getElem (p := fun y => decide (0 ≤ c y x)) (xs := l) (w := h3))
 by_cases e : q8q (fun y => c y x) l = k
 ·subst e; exact h2
 ·have h4 := List.pairwise_iff_getElem.1 hs _ _ h3 hk (by omega)
  rcases Int.lt_or_le (c l[k] x) 0 with h5 | h5
  ·exact absurd (h.tr _ _ _ h4 h5) (by omega)
  ·exact h5
theorem Kc.put {c : α → α → Int} (h : Kc c) {l : List α} (hs : l.Pairwise fun x y => c x y < 0) {x : α} {sm : α → Bool} (hsm : ∀ y ∈ l, c y x = 0 → (sm y = true ↔ y = x)) {l' : List α} (hp : k54 (fun y => c y x) sm l x = some l') :
  l'.Pairwise (fun x y => c x y < 0) ∧ (∀ y, y ∈ l' ↔ y ∈ l ∨ y = x) ∧ (∀ y ∈ l, c y x = 0 → y = x) ∧ (l' = l ∨ l'.length = l.length + 1) := by
 unfold k54 at hp
 cases hh : k5v (fun y => c y x) l with
 | true =>
  rw [if_pos hh] at hp
  have hi := k1p hh
  rw [List.getElem?_eq_getElem hi] at hp
  simp only at hp
  have h0 : c (l[q8q (fun y => c y x) l]) x = 0 := by
   unfold k5v at hh
   rw [dif_pos hi] at hh
   exact of_decide_eq_true hh
  have hm := List.getElem_mem hi
  split at hp
  ·rename_i hq
   obtain rfl := Option.some.inj hp
   have e := (hsm _ hm h0).1 hq
   refine ⟨hs, fun y => ⟨.inl, fun k => ?_⟩, fun y hy k => ?_, .inl rfl⟩
   ·rcases k with k | k
    ·exact k
    ·rw [k, ← e]; exact hm
   ·rw [← e] at k ⊢
    exact h.same hs hy hm k
  ·cases hp
 | false =>
  rw [if_neg (by simp [hh])] at hp
  obtain rfl := Option.some.inj hp
  have hne : ∀ k (hk : k < l.length), c l[k] x ≠ 0 := fun k hk e => by
   rcases Nat.lt_or_ge k (q8q (fun y => c y x) l) with h1 | h1
   ·have : c l[k] x < 0 := j1s (d := fun y => c y x) h1 hk
    omega
   ·have h3 : q8q (fun y => c y x) l < l.length := by omega
    unfold k5v at hh
    rw [dif_pos h3] at hh
    have h4 : ¬ c (l[q8q (fun y => c y x) l]) x = 0 := of_decide_eq_false hh
    have h5 := h.up hs x (Nat.le_refl _) h3
    have h6 : q8q (fun y => c y x) l ≠ k := fun e2 => by subst e2; exact h4 e
    have h7 := List.pairwise_iff_getElem.1 hs _ _ h3 hk (by omega)
    have h8 := (h.eq _ _ (l[q8q (fun y => c y x) l]) e).1 h7
    omega
  refine ⟨?_, fun y => ?_, fun y hy e => ?_, .inr (q77 _ _ _ z1i)⟩
  ·unfold ins
   rw [List.pairwise_append, List.pairwise_cons]
   refine ⟨hs.sublist (List.take_sublist _ _), ⟨fun b hb => ?_, hs.sublist (List.drop_sublist _ _)⟩, fun a ha b hb => ?_⟩
   ·obtain ⟨k, hk, rfl⟩ := List.mem_iff_getElem.1 hb
    rw [List.length_drop] at hk
    rw [List.getElem_drop]
    have h1 := h.up hs x (k := q8q (fun y => c y x) l + k) (by omega) (by omega)
    have h2 := hne (q8q (fun y => c y x) l + k) (by omega)
    exact (h.sw _ _).1 (by omega)
   ·obtain ⟨k, hk, rfl⟩ := List.mem_iff_getElem.1 ha
    rw [List.length_take] at hk
    rw [List.getElem_take]
    have hax : c l[k] x < 0 := j1s (d := fun y => c y x) (l := l) (k := k) (by omega) (by omega)
    rcases List.mem_cons.1 hb with rfl | hb
    ·exact hax
    ·obtain ⟨j, hj, rfl⟩ := List.mem_iff_getElem.1 hb
     rw [List.length_drop] at hj
     rw [List.getElem_drop]
     exact List.pairwise_iff_getElem.1 hs _ _ _ _ (by omega)
  ·have e := List.take_append_drop (q8q (fun y => c y x) l) l
   unfold ins
   rw [List.mem_append, List.mem_cons]
   conv => rhs; lhs; rw [← e, List.mem_append]
   constructor
   ·rintro (h | h | h)
    ·exact .inl (.inl h)
    ·exact .inr h
    ·exact .inl (.inr h)
   ·rintro ((h | h) | h)
    ·exact .inl h
    ·exact .inr (.inr h)
    ·exact .inr (.inl h)
  ·obtain ⟨k, hk, rfl⟩ := List.mem_iff_getElem.1 hy
   exact absurd e (hne k hk)
theorem Kc.put_ok {c : α → α → Int} {l : List α} {x : α} {sm : α → Bool} (hsm : ∀ y ∈ l, c y x = 0 → (sm y = true ↔ y = x)) (hu : ∀ y ∈ l, c y x = 0 → y = x) : ∃ l', k54 (fun y => c y x) sm l x = some l' := by
 unfold k54
 cases hh : k5v (fun y => c y x) l with
 | true =>
  rw [if_pos rfl]
  have hi := k1p hh
  rw [List.getElem?_eq_getElem hi]
  simp only
  have h0 : c (l[q8q (fun y => c y x) l]) x = 0 := by
   unfold k5v at hh
   rw [dif_pos hi] at hh
   exact of_decide_eq_true hh
  have hm := List.getElem_mem hi
  rw [if_pos ((hsm _ hm h0).2 (hu _ hm h0))]
  exact ⟨_, rfl⟩
 | false => exact ⟨_, if_neg (by simp)⟩
end
theorem kc_card : Kc cJ where
 tr := z1g
 sw x y := by rw [k7t, q56]
 eq x y z e := by rw [q56, q56, cmpI_eq.1 e]
theorem kc_shown : Kc nJ where
 tr := z1h
 sw x y := by rw [k7t, q56]
 eq x y z e := by rw [q56, q56, cmpI_eq.1 e]
theorem kc_share : Kc k0o where
 tr := q97
 sw x y := by
  have h1 := @k2y x y
  have h2 := @k2y y x
  have h3 := @z1e x y
  constructor
  ·intro h
   rw [h2]
   have a : ¬ k0o x y < 0 := by omega
   have b : ¬ k0o x y = 0 := by omega
   rw [h1] at a
   rw [h3] at b
   omega
  ·intro h
   rw [h2] at h
   have a : ¬ k0o x y < 0 := fun k => by rw [h1] at k; omega
   have b : ¬ k0o x y = 0 := fun k => by rw [h3] at k; omega
   omega
 eq x y z e := by
  have h3 := z1e.1 e
  rw [k2y, k2y, h3.1, h3.2.1, h3.2.2]
theorem z3a {y x : Card} (h : cJ y x = 0) : k8r y x = true ↔ y = x := by
 have hj := cmpI_eq.1 h
 unfold k8r
 simp only [Bool.and_eq_true, decide_eq_true_eq]
 constructor
 ·rintro ⟨⟨⟨a, b⟩, c⟩, d⟩
  cases y; cases x
  simp only at *
  subst a b c d hj
  rfl
 ·rintro rfl
  exact ⟨⟨⟨rfl, rfl⟩, rfl⟩, rfl⟩
theorem k9z {y x : Shn} (h : nJ y x = 0) : k8s y x = true ↔ y = x := by
 have hj := cmpI_eq.1 h
 unfold k8s
 simp only [Bool.and_eq_true, decide_eq_true_eq]
 constructor
 ·rintro ⟨a, b⟩
  cases y; cases x
  simp only at *
  subst a b hj
  rfl
 ·rintro rfl
  exact ⟨rfl, rfl⟩
end Go.Proofs.YtnooplpbpfiapaaGreatDoor
