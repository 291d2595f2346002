/- Too few shares leave all marks possible: plain. -/
import Derived.Test.YtnooplpbpfiapaaGreatDoorG36CF
namespace Go.Proofs.YtnooplpbpfiapaaGreatDoor
open Go.Pv Go.Pv.Ip
set_option maxRecDepth 100000
theorem j8b {l : List Pt} (hg : GoodP (q6y l)) {p : Pt} (hp : p ∈ l) : atV (q6y l) p.X = p.Y % Qi := by
 obtain ⟨i, hi, rfl⟩ := List.mem_iff_getElem.1 hp
 have := j22 hg (m := i) (by rw [q71]; exact hi)
 rw [Ip.X, Ip.Y, q9j hi] at this
 exact this
structure FewH (s : Ses) (w : Int) (x : Card) (marks : List Int) : Prop where
 r : RightP s
 op : q72 s = true
 ow : w ∈ s.judges
 cd : q73 s w = some x
 sh : q9f s w = none
 ml : (marks.length : Int) = s.crits
 nd : s.need ≤ (s.judges.length : Int) - 1
section
variable (s : Ses) (w : Int) (x : Card) (marks : List Int)
def j8c (c : Nat) : Int := (x.c.getD c 0 - marks.getD c 0) % Qi
def z7t (c : Nat) : List Pt := ⟨0, j8c x marks c⟩ :: k3s w c s.keys
def j01 (c : Nat) (h : Int) : Int := atV (q6y (z7t s w x marks c)) (h + 1)
structure FewI (c k : Nat) (K : List Sh) : Prop where
 r : RightP { s with keys := K }
 mem : ∀ y, y ∈ K ↔ y ∈ s.keys ∨ (y.o = w ∧ y.h ≠ w ∧ ∃ (c' k' : Nat) (hk : k' < s.judges.length), y.c = c' ∧ (c' : Int) < s.crits ∧ y.h = s.judges[k'] ∧ (c' < c ∨ c' = c ∧ k' < k) ∧ y.v = j01 s w x marks c' y.h)
 len : K.length ≤ s.keys.length + (c * s.judges.length + k)
end
section
variable {s : Ses} {w : Int} {x : Card} {marks : List Int}
theorem FewH.card (H : FewH s w x marks) : x.j = w ∧ x ∈ s.sealed ∧ (x.c.length : Int) = s.crits ∧ chk x.r x.e x.j x.c = true := by
 obtain ⟨h1, h2⟩ := z8y H.cd
 have h3 := H.r.card x h2
 unfold q74 at h3
 simp only [Bool.and_eq_true, decide_eq_true_eq] at h3
 exact ⟨h1, h2, h3.2, h3.1.1.1.1⟩
theorem FewH.good (H : FewH s w x marks) (c : Nat) : GoodP (q6y (z7t s w x marks c)) := by
 have hb : ∀ p ∈ k3s w c s.keys, 1 ≤ p.X ∧ p.X ≤ 256 := fun p hp => by
  obtain ⟨y, hy, -, -, rfl⟩ := z3p hp
  have := H.r.holder y hy
  show 1 ≤ y.h + 1 ∧ y.h + 1 ≤ 256
  omega
 refine z7g ?_ fun p hp => ?_
 ·unfold z7t
  rw [List.pairwise_cons]
  exact ⟨fun p hp => by have := hb p hp; simp only; omega, k9p H.r.keys w c⟩
 ·rcases List.mem_cons.1 hp with rfl | hp
  ·simp only; omega
  ·have := hb p hp; omega
theorem j4a (c : Nat) : 0 ≤ j8c x marks c ∧ j8c x marks c < Qi := k25 _
theorem y0y (c : Nat) (h : Int) : 0 ≤ j01 s w x marks c h ∧ j01 s w x marks c h < Qi := k25 _
theorem FewH.old (H : FewH s w x marks) {y : Sh} (hy : y ∈ s.keys) (ho : y.o = w) {c : Nat} (hc : y.c = c) : y.v = j01 s w x marks c y.h := by
 have h1 : ptK y ∈ z7t s w x marks c := by
  refine List.mem_cons_of_mem _ ?_
  unfold k3s
  refine List.mem_map.2 ⟨y, List.mem_filter.2 ⟨hy, ?_⟩, rfl⟩
  simp [isK, ho, hc]
 have h2 := j8b (H.good c) h1
 have h3 := (k4s (H.r.key y hy)).2.2.2.2
 rw [Int.emod_eq_of_lt h3.1 h3.2] at h2
 exact h2.symm
theorem FewH.zero (H : FewH s w x marks) : FewI s w x marks 0 0 s.keys :=
 ⟨H.r, fun y => ⟨.inl, fun h => h.elim id fun h => by obtain ⟨-, -, c', k', -, -, -, -, h, -⟩ := h; omega⟩, by omega⟩
theorem FewI.val (H : FewH s w x marks) {c k : Nat} {K : List Sh} (h : FewI s w x marks c k K) {y : Sh} (hy : y ∈ K) (ho : y.o = w) {c' : Nat} (hc : y.c = c') : y.v = j01 s w x marks c' y.h := by
 rcases (h.mem y).1 hy with h1 | ⟨-, -, c2, k2, hk, h1, -, -, -, h2⟩
 ·exact H.old h1 ho hc
 ·have : c' = c2 := by omega
  subst this
  exact h2
theorem FewI.step (H : FewH s w x marks) {c k : Nat} {K : List Sh} (h : FewI s w x marks c k K) (hc : (c : Int) < s.crits) (hk : k < s.judges.length) (hne : s.judges[k] ≠ w) :
  ∃ K', k0q { s with keys := K } ⟨w, c, s.judges[k], j01 s w x marks c s.judges[k]⟩ = .inl K' ∧ FewI s w x marks c (k + 1) K' := by
 have hv := y0y (s := s) (w := w) (x := x) (marks := marks) c s.judges[k]
 have hok : q6l { s with keys := K } ⟨w, c, s.judges[k], j01 s w x marks c s.judges[k]⟩ = true := by
  unfold q6l
  simp only [Bool.and_eq_true, decide_eq_true_eq, k6v]
  exact ⟨⟨⟨⟨H.ow, List.getElem_mem hk⟩, fun e => hne e.symm⟩, by omega, hc⟩, hv.1, hv.2⟩
 obtain ⟨K', hK⟩ := j30 (s := { s with keys := K }) (x := ⟨w, c, s.judges[k], j01 s w x marks c s.judges[k]⟩) H.op hok fun y hy e => by
  obtain ⟨e1, e2, e3⟩ := z3h.1 e
  have e4 := h.val H hy e1 e2
  simp only at e3
  rw [e3] at e4
  cases y
  simp only at e1 e2 e3 e4
  rw [e1, e2, e3, e4]
 have f := k9t h.r hK
 refine ⟨K', hK, h.r.dShare hK, fun y => ?_, ?_⟩
 ·rw [f.mem]
  show (y ∈ K ∨ _) ↔ _
  rw [h.mem]
  constructor
  ·rintro ((k1 | ⟨k1, k2, c', k', hk', k3, k4, k5, k6, k7⟩) | rfl)
   ·exact .inl k1
   ·exact .inr ⟨k1, k2, c', k', hk', k3, k4, k5, by omega, k7⟩
   ·exact .inr ⟨rfl, hne, c, k, hk, rfl, hc, rfl, by omega, rfl⟩
  ·rintro (k1 | ⟨k1, k2, c', k', hk', k3, k4, k5, k6, k7⟩)
   ·exact .inl (.inl k1)
   ·by_cases e : c' = c ∧ k' = k
    ·obtain ⟨rfl, rfl⟩ := e
     refine .inr ?_
     cases y
     simp only at k1 k3 k5 k7
     rw [k1, k3, k7, k5]
    ·exact .inl (.inr ⟨k1, k2, c', k', hk', k3, k4, k5, by omega, k7⟩)
 ·have := h.len
  rcases f.len with e | e
  ·rw [e]; show K.length ≤ _; omega
  ·have e2 : K'.length = K.length + 1 := e
   omega
theorem FewI.skip {c k : Nat} {K : List Sh} (h : FewI s w x marks c k K) (hk : k < s.judges.length) (he : s.judges[k] = w) : FewI s w x marks c (k + 1) K := by
 refine ⟨h.r, fun y => ?_, by have := h.len; omega⟩
 rw [h.mem]
 constructor
 ·rintro (k1 | ⟨k1, k2, c', k', hk', k3, k4, k5, k6, k7⟩)
  ·exact .inl k1
  ·exact .inr ⟨k1, k2, c', k', hk', k3, k4, k5, by omega, k7⟩
 ·rintro (k1 | ⟨k1, k2, c', k', hk', k3, k4, k5, k6, k7⟩)
  ·exact .inl k1
  ·by_cases e : k' = k
   ·subst e
    exact absurd (k5.trans he) k2
   ·exact .inr ⟨k1, k2, c', k', hk', k3, k4, k5, by omega, k7⟩
theorem FewI.next {c : Nat} {K : List Sh} (h : FewI s w x marks c s.judges.length K) : FewI s w x marks (c + 1) 0 K := by
 refine ⟨h.r, fun y => ?_, by have := h.len; rw [Nat.add_one_mul]; omega⟩
 rw [h.mem]
 constructor
 ·rintro (k1 | ⟨k1, k2, c', k', hk', k3, k4, k5, k6, k7⟩)
  ·exact .inl k1
  ·exact .inr ⟨k1, k2, c', k', hk', k3, k4, k5, by omega, k7⟩
 ·rintro (k1 | ⟨k1, k2, c', k', hk', k3, k4, k5, k6, k7⟩)
  ·exact .inl k1
  ·exact .inr ⟨k1, k2, c', k', hk', k3, k4, k5, by omega, k7⟩
theorem z5l (h : RightP s) : s.judges.Pairwise fun a b => a < b :=
 (q7o (c := k0s) (fun x y z h k => by rw [q6j] at *; omega) h.judges).imp fun h => q6j.1 h
theorem j02 {l : List Int} (h : l.Pairwise fun a b => a < b) {w : Int} (hw : w ∈ l) : (l.filter fun a => decide (a ≠ w)).length = l.length - 1 := by
 have hn : l.Nodup := h.imp fun h e => by omega
 have e : l.filter (fun a => decide (a ≠ w)) = l.erase w := by
  rw [hn.erase_eq_filter]
  refine List.filter_congr fun a _ => ?_
  by_cases h : a = w <;> simp [h]
 rw [e, List.length_erase_of_mem hw]
theorem FewI.done (H : FewH s w x marks) {n : Nat} (hn : s.crits = n) {K : List Sh} (h : FewI s w x marks n 0 K) (hl : ∀ c, c < n → ((z7t s w x marks c).length : Int) ≤ s.need) (hm : ∀ y ∈ marks, 0 ≤ y ∧ y ≤ 1000) : q8x { s with keys := K } w = ⟨2, marks⟩ := by
 obtain ⟨c1, c2, c3, c4⟩ := H.card
 have hml := H.ml
 have hkl : (q9w x.c marks).length = n := by simp [q9w]; omega
 have hS := (z5l H.r).sublist (List.filter_sublist (p := fun a => decide (a ≠ w)))
 have hSl := j02 (z5l H.r) H.ow
 have hkeys : q8b { s with keys := K } w (q9w x.c marks).length = some (q9w x.c marks) := by
  refine j0z fun c hc => ?_
  rw [hkl] at hc
  obtain ⟨p, hp, he⟩ := j9z (q6y (z7t s w x marks c))
  rw [q71] at hp
  have hpts := y0x (ks := K) (q7o q98 h.r.keys) (j := w) (c := c) hS (F := j01 s w x marks c) fun a v => by
   rw [List.mem_filter]
   constructor
   ·intro hy
    have h1 := h.val H hy rfl (c' := c) rfl
    have h2 := k4s (h.r.key _ hy)
    exact ⟨⟨h2.2.1, decide_eq_true fun e => h2.2.2.1 e.symm⟩, h1⟩
   ·rintro ⟨⟨h1, h2⟩, rfl⟩
    obtain ⟨k, hk, rfl⟩ := List.mem_iff_getElem.1 h1
    exact (h.mem _).2 (.inr ⟨rfl, of_decide_eq_true h2, c, k, hk, rfl, by omega, rfl, .inl hc, rfl⟩)
  have hL := hl c hc
  have key := j6u hS (fun a ha => H.r.judge a (List.mem_filter.1 ha).1) hpts (p := p) (fun a _ => he (a + 1)) (n := s.need.toNat) (by omega) (by have := H.nd; omega)
  show j09 w c K s.need.toNat = _
  rw [key, ← he 0]
  have h0 := j8b (H.good c) (p := ⟨0, j8c x marks c⟩) (List.mem_cons_self ..)
  simp only at h0
  rw [h0, Int.emod_eq_of_lt (j4a c).1 (j4a c).2]
  congr 1
  simp only [q9w, List.getElem_zipWith]
  unfold j8c
  rw [List.getD_eq_getElem?_getD, List.getD_eq_getElem?_getD, List.getElem?_eq_getElem (by omega), List.getElem?_eq_getElem (by omega)]
  rfl
 have hst := j39 c4 (m := marks) (by omega) hm
 have hsh : k2c { s with keys := K } x = some marks := by
  unfold k2c
  have e : ({ s with keys := K } : Ses).crits.toNat = (q9w x.c marks).length := by
   show s.crits.toNat = _
   omega
  rw [e, c1, hkeys]
  simp only
  rw [← c1]
  exact hst
 unfold q8x
 rw [if_pos (show q72 { s with keys := K } = true from H.op)]
 have h1 : q73 { s with keys := K } w = some x := H.cd
 have h2 : q9f { s with keys := K } w = none := H.sh
 rw [h1]
 simp only
 rw [h2]
 simp only
 rw [hsh]
end
end Go.Proofs.YtnooplpbpfiapaaGreatDoor
