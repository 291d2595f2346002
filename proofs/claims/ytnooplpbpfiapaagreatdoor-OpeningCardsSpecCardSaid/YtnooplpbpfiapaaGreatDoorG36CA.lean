/- Sorted lists into which something is put: plain. -/
import Derived.Test.YtnooplpbpfiapaaGreatDoorG36X
import Derived.Test.YtnooplpbpfiapaaGreatDoorG36AF
import Derived.Test.YtnooplpbpfiapaaGreatDoorG36AG
namespace Go.Proofs.YtnooplpbpfiapaaGreatDoor
open Go.Pv
set_option maxRecDepth 100000
section
variable {α : Type}
structure Kc (c : α → α → Int) : Prop where
 tr : ∀ x y z, c x y < 0 → c y z < 0 → c x z < 0
 sw : ∀ x y, 0 < c x y ↔ c y x < 0
 eq : ∀ x y z, c x y = 0 → (c z x < 0 ↔ c z y < 0)
theorem Kc.irr {c : α → α → Int} (h : Kc c) (x : α) : ¬ c x x < 0 := fun k => by
 have := (h.sw x x).2 k
 omega
theorem Kc.same {c : α → α → Int} (h : Kc c) {l : List α} (hs : l.Pairwise fun x y => c x y < 0) {y z : α} (hy : y ∈ l) (hz : z ∈ l) (e : c y z = 0) : y = z := by
 obtain ⟨i, hi, rfl⟩ := List.mem_iff_getElem.1 hy
 obtain ⟨k, hk, rfl⟩ := List.mem_iff_getElem.1 hz
 rcases Nat.lt_trichotomy i k with h1 | rfl | h1
 ·have := List.pairwise_iff_getElem.1 hs i k hi hk h1
  omega
 ·rfl
 ·have := (h.sw _ _).2 (List.pairwise_iff_getElem.1 hs k i hk hi h1)
  omega
theorem Kc.ext {c : α → α → Int} (h : Kc c) : ∀ {l m : List α}, l.Pairwise (fun x y => c x y < 0) → m.Pairwise (fun x y => c x y < 0) → (∀ y, y ∈ l ↔ y ∈ m) → l = m
 | [], [], _, _, _ => rfl
 | [], b :: m, _, _, he => absurd ((he b).2 (List.mem_cons_self ..)) (by simp)
 | a :: l, [], _, _, he => absurd ((he a).1 (List.mem_cons_self ..)) (by simp)
 | a :: l, b :: m, hl, hm, he => by
  rw [List.pairwise_cons] at hl hm
  have hab : a = b := by
   rcases List.mem_cons.1 ((he a).1 (List.mem_cons_self ..)) with e | e
   ·exact e
   rcases List.mem_cons.1 ((he b).2 (List.mem_cons_self ..)) with e2 | e2
   ·exact e2.symm
   exact absurd (h.tr _ _ _ (hl.1 _ e2) (hm.1 _ e)) (h.irr a)
  subst hab
  congr 1
  refine Kc.ext h hl.2 hm.2 fun y => ?_
  constructor
  ·intro hy
   rcases List.mem_cons.1 ((he y).1 (List.mem_cons_of_mem _ hy)) with e | e
   ·subst e; exact absurd (hl.1 _ hy) (h.irr _)
   ·exact e
  ·intro hy
   rcases List.mem_cons.1 ((he y).2 (List.mem_cons_of_mem _ hy)) with e | e
   ·subst e; exact absurd (hm.1 _ hy) (h.irr _)
   ·exact e
theorem j38 {d : α → Int} {l : List α} {k : Nat} (h : k < k0m d l) (hk : k < l.length) : d l[k] < 0 := by
 have := List.not_of_lt_findIdx h
 simpa using this
theorem Kc.up {c : α → α → Int} (h : Kc c) {l : List α} (hs : l.Pairwise fun x y => c x y < 0) (x : α) {k : Nat} (h1 : k0m (fun y => c y x) l ≤ k) (hk : k < l.length) : 0 ≤ c l[k] x := by
 have h3 : k0m (fun y => c y x) l < l.length := by omega
 have h2 : 0 ≤ c (l[k0m (fun y => c y x) l]) x := by
  exact of_decide_eq_true (List.findIdx_getElem (p := fun y => decide (0 ≤ c y x)) (xs := l) (w := h3))
 by_cases e : k0m (fun y => c y x) l = k
 ·subst e; exact h2
 ·have h4 := List.pairwise_iff_getElem.1 hs _ _ h3 hk (by omega)
  rcases Int.lt_or_le (c l[k] x) 0 with h5 | h5
  ·exact absurd (h.tr _ _ _ h4 h5) (by omega)
  ·exact h5
theorem Kc.put {c : α → α → Int} (h : Kc c) {l : List α} (hs : l.Pairwise fun x y => c x y < 0) {x : α} {sm : α → Bool} (hsm : ∀ y ∈ l, c y x = 0 → (sm y = true ↔ y = x)) {l' : List α} (hp : k9y (fun y => c y x) sm l x = some l') :
  l'.Pairwise (fun x y => c x y < 0) ∧ (∀ y, y ∈ l' ↔ y ∈ l ∨ y = x) ∧ (∀ y ∈ l, c y x = 0 → y = x) ∧ (l' = l ∨ l'.length = l.length + 1) := by
 unfold k9y at hp
 cases hh : k8n (fun y => c y x) l with
 | true =>
  rw [if_pos hh] at hp
  have hi := k48 hh
  rw [List.getElem?_eq_getElem hi] at hp
  simp only at hp
  have h0 : c (l[k0m (fun y => c y x) l]) x = 0 := by
   unfold k8n at hh
   rw [dif_pos hi] at hh
   exact of_decide_eq_true hh
  have hm := List.getElem_mem hi
  split at hp
  ·rename_i hq
   obtain rfl := Option.some.inj hp
   have e := (hsm _ hm h0).1 hq
   refine ⟨hs, fun y => ⟨.inl, fun k => ?_⟩, fun y hy k => ?_, .inl rfl⟩
   ·rcases k with k | k
    ·exact k
    ·rw [k, ← e]; exact hm
   ·rw [← e] at k ⊢
    exact h.same hs hy hm k
  ·cases hp
 | false =>
  rw [if_neg (by simp [hh])] at hp
  obtain rfl := Option.some.inj hp
  have hne : ∀ k (hk : k < l.length), c l[k] x ≠ 0 := fun k hk e => by
   rcases Nat.lt_or_ge k (k0m (fun y => c y x) l) with h1 | h1
   ·have : c l[k] x < 0 := j38 (d := fun y => c y x) h1 hk
    omega
   ·have h3 : k0m (fun y => c y x) l < l.length := by omega
    unfold k8n at hh
    rw [dif_pos h3] at hh
    have h4 : ¬ c (l[k0m (fun y => c y x) l]) x = 0 := of_decide_eq_false hh
    have h5 := h.up hs x (Nat.le_refl _) h3
    have h6 : k0m (fun y => c y x) l ≠ k := fun e2 => by subst e2; exact h4 e
    have h7 := List.pairwise_iff_getElem.1 hs _ _ h3 hk (by omega)
    have h8 := (h.eq _ _ (l[k0m (fun y => c y x) l]) e).1 h7
    omega
  refine ⟨?_, fun y => ?_, fun y hy e => ?_, .inr (q9r _ _ _ z3t)⟩
  ·unfold ins
   rw [List.pairwise_append, List.pairwise_cons]
   refine ⟨hs.sublist (List.take_sublist _ _), ⟨fun b hb => ?_, hs.sublist (List.drop_sublist _ _)⟩, fun a ha b hb => ?_⟩
   ·obtain ⟨k, hk, rfl⟩ := List.mem_iff_getElem.1 hb
    rw [List.length_drop] at hk
    rw [List.getElem_drop]
    have h1 := h.up hs x (k := k0m (fun y => c y x) l + k) (by omega) (by omega)
    have h2 := hne (k0m (fun y => c y x) l + k) (by omega)
    exact (h.sw _ _).1 (by omega)
   ·obtain ⟨k, hk, rfl⟩ := List.mem_iff_getElem.1 ha
    rw [List.length_take] at hk
    rw [List.getElem_take]
    have hax : c l[k] x < 0 := j38 (d := fun y => c y x) (l := l) (k := k) (by omega) (by omega)
    rcases List.mem_cons.1 hb with rfl | hb
    ·exact hax
    ·obtain ⟨j, hj, rfl⟩ := List.mem_iff_getElem.1 hb
     rw [List.length_drop] at hj
     rw [List.getElem_drop]
     exact List.pairwise_iff_getElem.1 hs _ _ _ _ (by omega)
  ·have e := List.take_append_drop (k0m (fun y => c y x) l) l
   unfold ins
   rw [List.mem_append, List.mem_cons]
   conv => rhs; lhs; rw [← e, List.mem_append]
   constructor
   ·rintro (h | h | h)
    ·exact .inl (.inl h)
    ·exact .inr h
    ·exact .inl (.inr h)
   ·rintro ((h | h) | h)
    ·exact .inl h
    ·exact .inr (.inr h)
    ·exact .inr (.inl h)
  ·obtain ⟨k, hk, rfl⟩ := List.mem_iff_getElem.1 hy
   exact absurd e (hne k hk)
end
theorem kc_card : Kc cJ where
 tr := z3r
 sw x y := by rw [z3p, q74]
 eq x y z e := by rw [q74, q74, cmpI_eq.1 e]
theorem kc_shown : Kc nJ where
 tr := z3s
 sw x y := by rw [z3p, q74]
 eq x y z e := by rw [q74, q74, cmpI_eq.1 e]
theorem kc_share : Kc q98 where
 tr := k16
 sw x y := by
  have h1 := @q9s x y
  have h2 := @q9s y x
  have h3 := @z7f x y
  constructor
  ·intro h
   rw [h2]
   have a : ¬ q98 x y < 0 := by omega
   have b : ¬ q98 x y = 0 := by omega
   rw [h1] at a
   rw [h3] at b
   omega
  ·intro h
   rw [h2] at h
   have a : ¬ q98 x y < 0 := fun k => by rw [h1] at k; omega
   have b : ¬ q98 x y = 0 := fun k => by rw [h3] at k; omega
   omega
 eq x y z e := by
  have h3 := z7f.1 e
  rw [q9s, q9s, h3.1, h3.2.1, h3.2.2]
theorem j39 {y x : Card} (h : cJ y x = 0) : z3n y x = true ↔ y = x := by
 have hj := cmpI_eq.1 h
 unfold z3n
 simp only [Bool.and_eq_true, decide_eq_true_eq]
 constructor
 ·rintro ⟨⟨⟨a, b⟩, c⟩, d⟩
  cases y; cases x
  simp only at *
  subst a b c d hj
  rfl
 ·rintro rfl
  exact ⟨⟨⟨rfl, rfl⟩, rfl⟩, rfl⟩
theorem j07 {y x : Shn} (h : nJ y x = 0) : z3o y x = true ↔ y = x := by
 have hj := cmpI_eq.1 h
 unfold z3o
 simp only [Bool.and_eq_true, decide_eq_true_eq]
 constructor
 ·rintro ⟨a, b⟩
  cases y; cases x
  simp only at *
  subst a b hj
  rfl
 ·rintro rfl
  exact ⟨rfl, rfl⟩
open Go.Pv
set_option maxRecDepth 100000
theorem RightP.cards {s : Ses} (h : RightP s) : s.sealed.Pairwise fun x y => cJ x y < 0 := q80 z3r h.sealed
theorem RightP.shares {s : Ses} (h : RightP s) : s.keys.Pairwise fun x y => q98 x y < 0 := q80 k16 h.keys
theorem RightP.shows {s : Ses} (h : RightP s) : s.shown.Pairwise fun x y => nJ x y < 0 := q80 z3s h.shown
theorem RightP.dPass {s : Ses} (h : RightP s) {a : Act} (hp : z3w s a = true) : RightP { s with time := a.time } := by
 unfold z3w at hp
 simp only [Bool.and_eq_true, decide_eq_true_eq] at hp
 have ht := h.time
 refine ⟨h.round, h.entry, h.crits, h.many, h.need, h.deadline, ?_, h.judges, h.judge, h.sealed, h.card, h.keys, h.key, h.shown, h.show_, ?_⟩
 ·show 0 ≤ a.time ∧ a.time < 2097152
  omega
 ·rcases h.gate with k | k
  ·refine .inl ?_
   unfold q8j at k ⊢
   simp only [Bool.or_eq_true, decide_eq_true_eq] at k ⊢
   rcases k with k | k
   ·exact .inl (by omega)
   ·exact .inr k
  ·exact .inr k
structure SealF (s : Ses) (x : Card) (l : List Card) : Prop where
 shut : q8j s = false
 ok : q8l s x = true
 sorted : l.Pairwise fun x y => cJ x y < 0
 mem : ∀ y, y ∈ l ↔ y ∈ s.sealed ∨ y = x
 uniq : ∀ y ∈ s.sealed, y.j = x.j → y = x
 len : l = s.sealed ∨ l.length = s.sealed.length + 1
theorem j08 {s : Ses} (h : RightP s) {x : Card} {l : List Card} (hr : k91 s x = .inl l) : SealF s x l := by
 unfold k91 at hr
 split at hr
 ·cases hr
 rename_i h1
 split at hr
 ·rename_i h2
  split at hr
  ·rename_i l2 h3
   obtain rfl := Sum.inl.inj hr
   obtain ⟨a, b, c, d⟩ := kc_card.put h.cards (fun y _ e => j39 e) h3
   exact ⟨by simpa using h1, h2, a, b, fun y hy e => c y hy (cmpI_eq.2 e), d⟩
  ·cases hr
 ·cases hr
theorem RightP.dSeal {s : Ses} (h : RightP s) {x : Card} {l : List Card} (hr : k91 s x = .inl l) : RightP { s with sealed := l } := by
 have f := j08 h hr
 have hg : s.keys = [] ∧ s.shown = [] := h.gate.resolve_left (by simp [f.shut])
 refine ⟨h.round, h.entry, h.crits, h.many, h.need, h.deadline, h.time, h.judges, h.judge, k9x f.sorted, fun y hy => ?_, h.keys, h.key, h.shown, ?_, .inr hg⟩
 ·show q8l s y = true
  rcases (f.mem y).1 hy with k | k
  ·exact h.card y k
  ·rw [k]; exact f.ok
 ·show ∀ x ∈ s.shown, _
  rw [hg.2]
  intro x hx
  cases hx
structure ShareF (s : Ses) (x : Sh) (l : List Sh) : Prop where
 opn : q8j s = true
 ok : q7d s x = true
 sorted : l.Pairwise fun x y => q98 x y < 0
 mem : ∀ y, y ∈ l ↔ y ∈ s.keys ∨ y = x
 uniq : ∀ y ∈ s.keys, q98 y x = 0 → y = x
 len : l = s.keys ∨ l.length = s.keys.length + 1
theorem j09 {y x : Sh} (_ : q98 y x = 0) : decide (y = x) = true ↔ y = x := by simp
theorem z74 {s : Ses} (h : RightP s) {x : Sh} {l : List Sh} (hr : k4n s x = .inl l) : ShareF s x l := by
 unfold k4n at hr
 split at hr
 ·rename_i h1
  split at hr
  ·rename_i h2
   split at hr
   ·rename_i l2 h3
    obtain rfl := Sum.inl.inj hr
    obtain ⟨a, b, c, d⟩ := kc_share.put h.shares (fun y _ e => j09 e) h3
    exact ⟨h1, h2, a, b, c, d⟩
   ·cases hr
  ·cases hr
 ·cases hr
theorem RightP.dShare {s : Ses} (h : RightP s) {x : Sh} {l : List Sh} (hr : k4n s x = .inl l) : RightP { s with keys := l } := by
 have f := z74 h hr
 refine ⟨h.round, h.entry, h.crits, h.many, h.need, h.deadline, h.time, h.judges, h.judge, h.sealed, h.card, k9x f.sorted, fun y hy => ?_, h.shown, h.show_, .inl f.opn⟩
 show q7d s y = true
 rcases (f.mem y).1 hy with k | k
 ·exact h.key y k
 ·rw [k]; exact f.ok
structure ShowF (s : Ses) (x : Shn) (l : List Shn) : Prop where
 opn : q8j s = true
 ok : q75 s x = true
 sorted : l.Pairwise fun x y => nJ x y < 0
 mem : ∀ y, y ∈ l ↔ y ∈ s.shown ∨ y = x
 uniq : ∀ y ∈ s.shown, y.j = x.j → y = x
 len : l = s.shown ∨ l.length = s.shown.length + 1
theorem j1a {s : Ses} (h : RightP s) {x : Shn} {l : List Shn} (hr : k92 s x = .inl l) : ShowF s x l := by
 unfold k92 at hr
 split at hr
 ·rename_i h1
  split at hr
  ·rename_i h2
   split at hr
   ·rename_i l2 h3
    obtain rfl := Sum.inl.inj hr
    obtain ⟨a, b, c, d⟩ := kc_shown.put h.shows (fun y _ e => j07 e) h3
    exact ⟨h1, h2, a, b, fun y hy e => c y hy (cmpI_eq.2 e), d⟩
   ·cases hr
  ·cases hr
 ·cases hr
theorem RightP.dShow {s : Ses} (h : RightP s) {x : Shn} {l : List Shn} (hr : k92 s x = .inl l) : RightP { s with shown := l } := by
 have f := j1a h hr
 refine ⟨h.round, h.entry, h.crits, h.many, h.need, h.deadline, h.time, h.judges, h.judge, h.sealed, h.card, h.keys, h.key, k9x f.sorted, fun y hy => ?_, .inl f.opn⟩
 show q75 s y = true
 rcases (f.mem y).1 hy with k | k
 ·exact h.show_ y k
 ·rw [k]; exact f.ok
inductive Did (s : Ses) (a : Act) : Ses → Prop
 | dPass (_ : a.kind = 1) (_ : z3w s a = true) : Did s a { s with time := a.time }
 | dSeal (_ : a.kind = 2) {l : List Card} (_ : k91 s a.card = .inl l) : Did s a { s with sealed := l }
 | dShare (_ : a.kind = 3) {l : List Sh} (_ : k4n s a.key = .inl l) : Did s a { s with keys := l }
 | dShow (_ : a.kind = 4) {l : List Shn} (_ : k92 s a.shown = .inl l) : Did s a { s with shown := l }
theorem j4a {s : Ses} {a : Act} {x : Ses} (h : doR s a = .inl x) : q67 s = true ∧ Did s a x := by
 unfold doR at h
 split at h
 ·rename_i h0
  refine ⟨h0, ?_⟩
  split at h
  ·rename_i h1
   split at h
   ·rename_i h2
    obtain rfl := Sum.inl.inj h
    exact .dPass h1 h2
   ·cases h
  split at h
  ·rename_i h1
   split at h
   ·rename_i l h2
    obtain rfl := Sum.inl.inj h
    exact .dSeal h1 h2
   ·cases h
  split at h
  ·rename_i h1
   split at h
   ·rename_i l h2
    obtain rfl := Sum.inl.inj h
    exact .dShare h1 h2
   ·cases h
  split at h
  ·rename_i h1
   split at h
   ·rename_i l h2
    obtain rfl := Sum.inl.inj h
    exact .dShow h1 h2
   ·cases h
  cases h
 ·cases h
theorem Did.to {s : Ses} {a : Act} {x : Ses} (h0 : q67 s = true) (h : Did s a x) : doR s a = .inl x := by
 unfold doR
 rw [if_pos h0]
 cases h with
 | dPass h1 h2 => rw [if_pos h1, if_pos h2]
 | dSeal h1 h2 => rw [if_neg (by omega), if_pos h1, h2]
 | dShare h1 h2 => rw [if_neg (by omega), if_neg (by omega), if_pos h1, h2]
 | dShow h1 h2 => rw [if_neg (by omega), if_neg (by omega), if_neg (by omega), if_pos h1, h2]
theorem Did.right {s : Ses} {a : Act} {x : Ses} (h : Did s a x) (hr : RightP s) : RightP x := by
 cases h with
 | dPass h1 h2 => exact hr.dPass h2
 | dSeal h1 h2 => exact hr.dSeal h2
 | dShare h1 h2 => exact hr.dShare h2
 | dShow h1 h2 => exact hr.dShow h2
theorem y49 {s : Ses} {a : Act} {x : Ses} (h : doR s a = .inl x) : doE s a = 0 ∧ doS s a = x := by
 unfold doE doS
 rw [h]
 exact ⟨rfl, rfl⟩
open Go.Pv
set_option maxRecDepth 100000
theorem j1b {s : Ses} {j : Int} (h : q8j s = false) : q7a s j = ⟨0, []⟩ := by unfold q7a; rw [if_neg (by simp [h])]
theorem j61 {s : Ses} {j : Int} {x : Card} {y : Shn} (ho : q8j s = true) (hx : q8r s j = some x) (hy : q99 s j = some y) : q7a s j = ⟨1, (q8s x y).getD []⟩ := by
 unfold q7a
 rw [if_pos ho, hx]
 simp only
 rw [hy]
theorem j1c {s : Ses} {j : Int} (ho : q8j s = true) (hx : q8r s j = none) : q7a s j = ⟨3, []⟩ := by
 unfold q7a
 rw [if_pos ho, hx]
end Go.Proofs.YtnooplpbpfiapaaGreatDoor
