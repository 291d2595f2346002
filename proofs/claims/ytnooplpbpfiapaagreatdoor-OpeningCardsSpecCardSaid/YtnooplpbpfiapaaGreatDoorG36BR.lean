/- The reference: what is few. -/
import Derived.Test.YtnooplpbpfiapaaGreatDoorG36AF
namespace Go.Proofs.YtnooplpbpfiapaaGreatDoor
open Go.Pv
set_option maxRecDepth 100000
set_option maxHeartbeats 16000000
def j44 (x : Card) : Bool := !((decide (8 < x.c.length) && decide (x.c.length ≤ 64)) || decide (80 < x.c.length))
def j45 (x : Shn) : Bool := decide (x.k.length ≤ 80)
theorem z9f (x : Card) : j44 x = true ↔ ¬ ((8 < x.c.length ∧ x.c.length ≤ 64) ∨ 80 < x.c.length) := by
 unfold j44
 simp only [Bool.not_eq_true', Bool.or_eq_false_iff, Bool.and_eq_false_iff, decide_eq_false_iff_not]
 omega
theorem z00 (t : Bool) (l : List Card) (hl : l.length ≤ 100000) (st : q5d) : Rets P F.q25 [Card.lst t l] st (.bool (l.all j44)) := by
 obtain ⟨W, hW⟩ : ∃ W, W = l.all j44 := ⟨_, rfl⟩
 rw [← hW]
 replace hW := Hid.mk hW
 refine H.q25.view q5n rfl rfl ?_
 repeat' (simp -dsimp -implicitDefEqProofs [*])
 refine q5g (fun n : Nat => [(0, Card.lst t l), (3, .int n)]) (fun _ => st) (fun n => n ≤ l.length ∧ Hid (∀ j (h : j < l.length), j < n → j44 l[j] = true)) (fun n => l.length - n) 0 ⟨Nat.zero_le _, ⟨fun j _ h => absurd h (by omega)⟩⟩ (by simp) (.refl _) ?_
 rintro n ⟨hn, hI⟩
 by_cases hnl : n < l.length
 ·have hw := q5h (n := n) (by omega)
  have g1 : (Card.row l)[n * 36 + 3]? = some (q5k false l[n].c) := q7n Card.enc 36 Card.len l n 3 hnl (by omega)
  have hI2 : Hid (j44 l[n] = true → ∀ j (h : j < l.length), j < n + 1 → j44 l[j] = true) := ⟨fun h j hj h2 => if e : j = n then by subst e; exact h else hI.out j hj (by omega)⟩
  have hno : Hid (¬ j44 l[n] = true → W = false) := ⟨fun h => by rw [hW.out]; exact Bool.eq_false_iff.2 fun e => h (List.all_eq_true.1 e _ (List.getElem_mem hnl))⟩
  rw [z9f] at hI2 hno
  obtain ⟨c, hc⟩ : ∃ c, c = l[n].c := ⟨_, rfl⟩
  rw [← hc] at g1 hI2 hno
  have G1 : ∀ h, (Card.row l)[n * 36 + 3]'h = q5k false c := fun h => by have := List.getElem?_eq_getElem h; rw [g1] at this; exact (Option.some.inj this).symm
  have hk : n * 36 + 3 < l.length * 36 := by omega
  clear hc hI hW
  by_cases h1 : (8 < c.length ∧ c.length ≤ 64) ∨ 80 < c.length
  ·have e := hno.out (fun h => h h1)
   subst e
   clear hI2 hno
   by_cases h2 : 80 < c.length
   ·have a1 : (8 : Int) < c.length := by omega
    have a2 : ¬ (c.length : Int) ≤ 64 := by omega
    have a3 : (80 : Int) < c.length := by omega
    clear h1
    repeat' (simp -dsimp -implicitDefEqProofs [*])
    exact .same ⟨rfl, rfl⟩
   ·have a1 : (8 : Int) < c.length := by omega
    have a2 : (c.length : Int) ≤ 64 := by omega
    clear h1
    repeat' (simp -dsimp -implicitDefEqProofs [*])
    exact .same ⟨rfl, rfl⟩
  ·have e := Hid.mk (hI2.out h1)
   clear hI2 hno
   by_cases h2 : 8 < c.length
   ·have a1 : (8 : Int) < c.length := by omega
    have a2 : ¬ (c.length : Int) ≤ 64 := by omega
    have a3 : ¬ (80 : Int) < c.length := by omega
    clear h1
    repeat' (simp -dsimp -implicitDefEqProofs [*])
    exact Next.intro (n + 1) ⟨by omega, e⟩ (by omega) (by simp) q5q
   ·have a1 : ¬ (8 : Int) < c.length := by omega
    have a3 : ¬ (80 : Int) < c.length := by omega
    clear h1
    repeat' (simp -dsimp -implicitDefEqProofs [*])
    exact Next.intro (n + 1) ⟨by omega, e⟩ (by omega) (by simp) q5q
 ·obtain rfl : n = l.length := by omega
  have e : W = true := by
   rw [hW.out]
   refine List.all_eq_true.2 fun x hx => ?_
   obtain ⟨j, hj, rfl⟩ := List.mem_iff_getElem.1 hx
   exact hI.out j hj hj
  subst e
  clear hI hW
  repeat' (simp -dsimp -implicitDefEqProofs [*])
  exact .same ⟨rfl, rfl⟩
theorem z01 (t : Bool) (l : List Shn) (hl : l.length ≤ 100000) (st : q5d) : Rets P F.q26 [Shn.lst t l] st (.bool (l.all j45)) := by
 obtain ⟨W, hW⟩ : ∃ W, W = l.all j45 := ⟨_, rfl⟩
 rw [← hW]
 replace hW := Hid.mk hW
 refine H.q26.view q5n rfl rfl ?_
 repeat' (simp -dsimp -implicitDefEqProofs [*])
 refine q5g (fun n : Nat => [(0, Shn.lst t l), (3, .int n)]) (fun _ => st) (fun n => n ≤ l.length ∧ Hid (∀ j (h : j < l.length), j < n → j45 l[j] = true)) (fun n => l.length - n) 0 ⟨Nat.zero_le _, ⟨fun j _ h => absurd h (by omega)⟩⟩ (by simp) (.refl _) ?_
 rintro n ⟨hn, hI⟩
 by_cases hnl : n < l.length
 ·have hw := q5h (n := n) (by omega)
  have g1 : (Shn.row l)[n * 34 + 1]? = some (q5k false l[n].k) := q7n Shn.enc 34 Shn.len l n 1 hnl (by omega)
  have hI2 : Hid (j45 l[n] = true → ∀ j (h : j < l.length), j < n + 1 → j45 l[j] = true) := ⟨fun h j hj h2 => if e : j = n then by subst e; exact h else hI.out j hj (by omega)⟩
  have hno : Hid (¬ j45 l[n] = true → W = false) := ⟨fun h => by rw [hW.out]; exact Bool.eq_false_iff.2 fun e => h (List.all_eq_true.1 e _ (List.getElem_mem hnl))⟩
  unfold j45 at hI2 hno
  rw [decide_eq_true_eq] at hI2 hno
  obtain ⟨c, hc⟩ : ∃ c, c = l[n].k := ⟨_, rfl⟩
  rw [← hc] at g1 hI2 hno
  have G1 : ∀ h, (Shn.row l)[n * 34 + 1]'h = q5k false c := fun h => by have := List.getElem?_eq_getElem h; rw [g1] at this; exact (Option.some.inj this).symm
  have hk : n * 34 + 1 < l.length * 34 := by omega
  clear hc hI hW
  by_cases h1 : c.length ≤ 80
  ·have e := Hid.mk (hI2.out h1)
   have a3 : ¬ (80 : Int) < c.length := by omega
   clear hI2 hno
   repeat' (simp -dsimp -implicitDefEqProofs [*])
   exact Next.intro (n + 1) ⟨by omega, e⟩ (by omega) (by simp) q5q
  ·have e := hno.out h1
   subst e
   have a3 : (80 : Int) < c.length := by omega
   clear hI2 hno
   repeat' (simp -dsimp -implicitDefEqProofs [*])
   exact .same ⟨rfl, rfl⟩
 ·obtain rfl : n = l.length := by omega
  have e : W = true := by
   rw [hW.out]
   refine List.all_eq_true.2 fun x hx => ?_
   obtain ⟨j, hj, rfl⟩ := List.mem_iff_getElem.1 hx
   exact hI.out j hj hj
  subst e
  clear hI hW
  repeat' (simp -dsimp -implicitDefEqProofs [*])
  exact .same ⟨rfl, rfl⟩
def y2q (s : Ses) : Bool := (decide (s.judges.length ≤ 6) || (decide (24 < s.judges.length) && decide (s.judges.length ≤ 40))) && decide (s.sealed.length ≤ 8) && decide (s.keys.length ≤ 60) && decide (s.shown.length ≤ 8) && s.sealed.all j44 && s.shown.all j45
theorem j34 (s : Ses) (st : q5d) : Rets P F.q4c [s.pv] st (.bool (y2q s)) := by
 obtain ⟨W, hW⟩ : ∃ W, W = y2q s := ⟨_, rfl⟩
 rw [← hW]
 unfold y2q at hW
 refine H.q4c.view q5n rfl rfl ?_
 by_cases h1 : s.judges.length ≤ 6 ∨ (24 < s.judges.length ∧ s.judges.length ≤ 40)
 case neg =>
  have e : W = false := by
   rw [hW]
   have : (decide (s.judges.length ≤ 6) || (decide (24 < s.judges.length) && decide (s.judges.length ≤ 40))) = false := by
    simp only [Bool.or_eq_false_iff, Bool.and_eq_false_iff, decide_eq_false_iff_not]
    omega
   rw [this]
   rfl
  subst e
  have a1 : ¬ (s.judges.length : Int) ≤ 6 := by omega
  clear hW
  by_cases h2 : 24 < s.judges.length
  ·have a2 : (24 : Int) < s.judges.length := by omega
   have a3 : ¬ (s.judges.length : Int) ≤ 40 := by omega
   clear h1
   repeat' (first 
    | (with_reducible refine Fresh.intro fun b hb => ?_) <;> (try simp -dsimp -implicitDefEqProofs [*] at hb)
    | (simp -dsimp -implicitDefEqProofs [*]))
   exact RetView.drop (st' := st) q5q ⟨rfl, rfl⟩
  ·have a2 : ¬ (24 : Int) < s.judges.length := by omega
   clear h1
   repeat' (first 
    | (with_reducible refine Fresh.intro fun b hb => ?_) <;> (try simp -dsimp -implicitDefEqProofs [*] at hb)
    | (simp -dsimp -implicitDefEqProofs [*]))
   exact RetView.drop (st' := st) q5q ⟨rfl, rfl⟩
 have e : (decide (s.judges.length ≤ 6) || (decide (24 < s.judges.length) && decide (s.judges.length ≤ 40))) = true := by
  simp only [Bool.or_eq_true, Bool.and_eq_true, decide_eq_true_eq]
  omega
 rw [e, Bool.true_and] at hW
 clear e
 have hj : ((s.judges.length : Int) ≤ 6) ∨ (¬ (s.judges.length : Int) ≤ 6 ∧ (24 : Int) < s.judges.length ∧ (s.judges.length : Int) ≤ 40) := by omega
 clear h1
 by_cases h2 : s.sealed.length ≤ 8
 case neg =>
  have a2 : ¬ (s.sealed.length : Int) ≤ 8 := by omega
  have e : W = false := by rw [hW, decide_eq_false h2]; rfl
  subst e
  clear hW
  rcases hj with j1 | ⟨j1, j2, j3⟩
  ·repeat' (first 
    | (with_reducible refine Fresh.intro fun b hb => ?_) <;> (try simp -dsimp -implicitDefEqProofs [*] at hb)
    | (simp -dsimp -implicitDefEqProofs [*]))
   exact RetView.drop (st' := st) q5q ⟨rfl, rfl⟩
  ·repeat' (first 
    | (with_reducible refine Fresh.intro fun b hb => ?_) <;> (try simp -dsimp -implicitDefEqProofs [*] at hb)
    | (simp -dsimp -implicitDefEqProofs [*]))
   exact RetView.drop (st' := st) q5q ⟨rfl, rfl⟩
 rw [decide_eq_true h2, Bool.true_and] at hW
 by_cases h3 : s.keys.length ≤ 60
 case neg =>
  have a2 : (s.sealed.length : Int) ≤ 8 := by omega
  have a3 : ¬ (s.keys.length : Int) ≤ 60 := by omega
  have e : W = false := by rw [hW, decide_eq_false h3]; rfl
  subst e
  clear hW
  rcases hj with j1 | ⟨j1, j2, j3⟩
  ·repeat' (first 
    | (with_reducible refine Fresh.intro fun b hb => ?_) <;> (try simp -dsimp -implicitDefEqProofs [*] at hb)
    | (simp -dsimp -implicitDefEqProofs [*]))
   exact RetView.drop (st' := st) q5q ⟨rfl, rfl⟩
  ·repeat' (first 
    | (with_reducible refine Fresh.intro fun b hb => ?_) <;> (try simp -dsimp -implicitDefEqProofs [*] at hb)
    | (simp -dsimp -implicitDefEqProofs [*]))
   exact RetView.drop (st' := st) q5q ⟨rfl, rfl⟩
 rw [decide_eq_true h3, Bool.true_and] at hW
 by_cases h4 : s.shown.length ≤ 8
 case neg =>
  have a2 : (s.sealed.length : Int) ≤ 8 := by omega
  have a3 : (s.keys.length : Int) ≤ 60 := by omega
  have a4 : ¬ (s.shown.length : Int) ≤ 8 := by omega
  have e : W = false := by rw [hW, decide_eq_false h4]; rfl
  subst e
  clear hW
  rcases hj with j1 | ⟨j1, j2, j3⟩
  ·repeat' (first 
    | (with_reducible refine Fresh.intro fun b hb => ?_) <;> (try simp -dsimp -implicitDefEqProofs [*] at hb)
    | (simp -dsimp -implicitDefEqProofs [*]))
   exact RetView.drop (st' := st) q5q ⟨rfl, rfl⟩
  ·repeat' (first 
    | (with_reducible refine Fresh.intro fun b hb => ?_) <;> (try simp -dsimp -implicitDefEqProofs [*] at hb)
    | (simp -dsimp -implicitDefEqProofs [*]))
   exact RetView.drop (st' := st) q5q ⟨rfl, rfl⟩
 rw [decide_eq_true h4, Bool.true_and] at hW
 have a2 : (s.sealed.length : Int) ≤ 8 := by omega
 have a3 : (s.keys.length : Int) ≤ 60 := by omega
 have a4 : (s.shown.length : Int) ≤ 8 := by omega
 have c1 := z00 false s.sealed (by omega)
 have c2 := z01 false s.shown (by omega)
 generalize s.sealed.all j44 = A at *
 generalize s.shown.all j45 = B at *
 subst hW
 rcases hj with j1 | ⟨j1, j2, j3⟩
 ·repeat' (first 
   | (with_reducible refine Fresh.intro fun b hb => ?_) <;> (try simp -dsimp -implicitDefEqProofs [*] at hb)
   | (with_reducible refine Rets.xcall (c1 _) ?_)
   | (with_reducible refine Rets.xcall (c2 _) ?_)
   | (with_reducible refine And.intro (fun h => ?_) (fun h => ?_)) <;> (try (exfalso; omega))
   | (simp -dsimp -implicitDefEqProofs [*]))
  all_goals exact RetView.drop (st' := st) q5q ⟨rfl, rfl⟩
 ·repeat' (first 
   | (with_reducible refine Fresh.intro fun b hb => ?_) <;> (try simp -dsimp -implicitDefEqProofs [*] at hb)
   | (with_reducible refine Rets.xcall (c1 _) ?_)
   | (with_reducible refine Rets.xcall (c2 _) ?_)
   | (with_reducible refine And.intro (fun h => ?_) (fun h => ?_)) <;> (try (exfalso; omega))
   | (simp -dsimp -implicitDefEqProofs [*]))
  all_goals exact RetView.drop (st' := st) q5q ⟨rfl, rfl⟩
theorem y0x {s : Ses} (h : y2q s = true) (hc : -9223372036854775808 ≤ s.crits ∧ s.crits < 9223372036854775808) (hn : -9223372036854775808 ≤ s.need ∧ s.need < 9223372036854775808) : s.Len ∧ s.judges.length ≤ 40 ∧ s.sealed.length ≤ 8 ∧ s.keys.length ≤ 60 ∧ s.shown.length ≤ 8 := by
 unfold y2q at h
 simp only [Bool.and_eq_true, Bool.or_eq_true, decide_eq_true_eq, List.all_eq_true] at h
 obtain ⟨⟨⟨⟨⟨h1, h2⟩, h3⟩, h4⟩, h5⟩, h6⟩ := h
 refine ⟨⟨by omega, by omega, by omega, by omega, fun x hx => ?_, fun x hx => ?_, hc, hn⟩, by omega, h2, h3, h4⟩
 ·have := (z9f x).1 (h5 x hx)
  omega
 ·have := h6 x hx
  unfold j45 at this
  have := of_decide_eq_true this
  omega
open Go.Pv
set_option maxRecDepth 100000
set_option maxHeartbeats 8000000
theorem j35 {α : Type} (p : α → Bool) (l : List α) : (l.find? p = none ∧ k7x p l = -1) ∨ ∃ i, ∃ h : i < l.length, l.find? p = some l[i] ∧ k7x p l = i := by
 cases h : l.find? p with
 | none =>
  refine .inl ⟨rfl, ?_⟩
  rw [List.find?_eq_none] at h
  exact k02 fun j hj => by simpa using h _ (List.getElem_mem hj)
 | some y =>
  obtain ⟨hy, i, hi, rfl, hb⟩ := List.find?_eq_some_iff_getElem.1 h
  exact .inr ⟨i, hi, rfl, q9q hi (fun j hj => by simpa using hb j hj) hy⟩
theorem z9g (s : Ses) (j : Int) : (q8r s j = none ∧ j60 s j = -1) ∨ ∃ i, ∃ h : i < s.sealed.length, q8r s j = some s.sealed[i] ∧ j60 s j = i := j35 _ _
theorem z7v (s : Ses) (hs : s.judges.length ≤ 100000) (x : Card) (hx : x.c.length ≤ 100000) (st : q5d) : Rets P F.q3z [s.pv, x.pv] st (.bool (q8l s x)) := by
 have ck := fun st => k9u x.r x.e x.j false x.c hx x.d.1 st
 obtain ⟨A, hA⟩ : ∃ A, A = chk x.r x.e x.j x.c := ⟨_, rfl⟩
 obtain ⟨B, hB⟩ : ∃ B, B = decide (x.j ∈ s.judges) := ⟨_, rfl⟩
 have ci := k5b false s.judges (by omega) x.j
 have cp := z7t s.judges x.j
 unfold q8l
 rw [← hA, ← hB]
 rw [← hB] at cp
 generalize atI s.judges x.j = I at *
 have ck2 : ∀ st, Rets P F.q18 [x.pv] st (.int (if A = true then 0 else 340)) := by rw [hA]; exact ck
 clear hA hB ck
 refine H.q3z.pure q5n rfl rfl ?_
 cases A with
 | false =>
  simp only [Bool.false_eq_true, if_false] at ck2
  repeat' (first 
   | (with_reducible refine Fresh.intro fun b hb => ?_) <;> (try simp -dsimp -implicitDefEqProofs [*] at hb)
   | (with_reducible refine Rets.xcall (ck2 _) ?_)
   | (simp -dsimp -implicitDefEqProofs [*]))
 | true =>
  simp only [if_true] at ck2
  by_cases h1 : x.r = s.round
  case neg =>
   clear cp
   repeat' (first 
    | (with_reducible refine Fresh.intro fun b hb => ?_) <;> (try simp -dsimp -implicitDefEqProofs [*] at hb)
    | (with_reducible refine Rets.xcall (ck2 _) ?_)
    | (simp -dsimp -implicitDefEqProofs [*]))
  by_cases h2 : x.e = s.entry
  case neg =>
   clear cp
   repeat' (first 
    | (with_reducible refine Fresh.intro fun b hb => ?_) <;> (try simp -dsimp -implicitDefEqProofs [*] at hb)
    | (with_reducible refine Rets.xcall (ck2 _) ?_)
    | (simp -dsimp -implicitDefEqProofs [*]))
  cases B with
  | false =>
   replace cp := of_decide_eq_false cp
   repeat' (first 
    | (with_reducible refine Fresh.intro fun b hb => ?_) <;> (try simp -dsimp -implicitDefEqProofs [*] at hb)
    | (with_reducible refine Rets.xcall (ck2 _) ?_)
    | (with_reducible refine Rets.xcall (ci _) ?_)
    | (simp -dsimp -implicitDefEqProofs [*]))
  | true =>
   replace cp := of_decide_eq_true cp
   repeat' (first 
    | (with_reducible refine Fresh.intro fun b hb => ?_) <;> (try simp -dsimp -implicitDefEqProofs [*] at hb)
    | (with_reducible refine Rets.xcall (ck2 _) ?_)
    | (with_reducible refine Rets.xcall (ci _) ?_)
    | (simp -dsimp -implicitDefEqProofs [*]))
theorem z5r (s : Ses) (hs : s.judges.length ≤ 100000) (x : Sh) (st : q5d) : Rets P F.q3r [s.pv, x.pv] st (.bool (q7d s x)) := by
 have c1 := k5b false s.judges (by omega) x.o
 have c2 := k5b false s.judges (by omega) x.h
 have p1 := z7t s.judges x.o
 have p2 := z7t s.judges x.h
 have c3 := q8e x.c s.crits
 have c4 := q8e x.v 1073741789
 unfold q7d
 obtain ⟨A, hA⟩ : ∃ A, A = decide (x.o ∈ s.judges) := ⟨_, rfl⟩
 obtain ⟨B, hB⟩ : ∃ B, B = decide (x.h ∈ s.judges) := ⟨_, rfl⟩
 rw [← hA, ← hB]
 rw [← hA] at p1
 rw [← hB] at p2
 generalize atI s.judges x.o = I at *
 generalize atI s.judges x.h = J at *
 generalize wiL x.c s.crits = C at *
 generalize wiL x.v 1073741789 = D at *
 clear hA hB
 refine H.q3r.pure q5n rfl rfl ?_
 cases A with
 | false =>
  replace p1 := of_decide_eq_false p1
  repeat' (first 
   | (with_reducible refine Fresh.intro fun b hb => ?_) <;> (try simp -dsimp -implicitDefEqProofs [*] at hb)
   | (with_reducible refine Rets.xcall (c1 _) ?_)
   | (simp -dsimp -implicitDefEqProofs [*]))
 | true =>
  replace p1 := of_decide_eq_true p1
  cases B with
  | false =>
   replace p2 := of_decide_eq_false p2
   repeat' (first 
    | (with_reducible refine Fresh.intro fun b hb => ?_) <;> (try simp -dsimp -implicitDefEqProofs [*] at hb)
    | (with_reducible refine Rets.xcall (c1 _) ?_)
    | (with_reducible refine Rets.xcall (c2 _) ?_)
    | (simp -dsimp -implicitDefEqProofs [*]))
  | true =>
   replace p2 := of_decide_eq_true p2
   repeat' (first 
    | (with_reducible refine Fresh.intro fun b hb => ?_) <;> (try simp -dsimp -implicitDefEqProofs [*] at hb)
    | (with_reducible refine Rets.xcall (c1 _) ?_)
    | (with_reducible refine Rets.xcall (c2 _) ?_)
    | (with_reducible refine Rets.xcall (c3 _) ?_)
    | (with_reducible refine Rets.xcall (c4 _) ?_)
    | (with_reducible refine And.intro (fun h => ?_) (fun h => ?_)) <;> (try (exfalso; omega))
    | (simp -dsimp -implicitDefEqProofs [*]))
open Go.Pv
set_option maxRecDepth 100000
set_option maxHeartbeats 8000000
theorem z7w (s : Ses) (hl : s.sealed.length ≤ 1024) (hc : ∀ x ∈ s.sealed, x.c.length ≤ 100000) (x : Shn) (hx : x.k.length ≤ 100000) (st : q5d) : Rets P F.q2o [s.pv, x.pv] st (.bool (q75 s x)) := by
 have cc := z18 s hl x.j
 obtain ⟨W, hW⟩ : ∃ W, W = q75 s x := ⟨_, rfl⟩
 rw [← hW]
 unfold q75 at hW
 rcases z9g s x.j with ⟨e1, e2⟩ | ⟨i, hi, e1, e2⟩
 ·rw [e1] at hW
  rw [e2] at cc
  replace hW : W = false := hW
  subst hW
  clear e1 e2
  refine H.q2o.pure q5n rfl rfl ?_
  repeat' (first 
   | (with_reducible refine Fresh.intro fun b hb => ?_) <;> (try simp -dsimp -implicitDefEqProofs [*] at hb)
   | (with_reducible refine Rets.xcall (cc _) ?_)
   | (simp -dsimp -implicitDefEqProofs [*]))
 ·rw [e1] at hW
  rw [e2] at cc
  have hyl := hc _ (List.getElem_mem hi)
  have s0 := Card.row_sub s.sealed i hi
  have hk : i * 36 < s.sealed.length * 36 := by omega
  obtain ⟨y, hy⟩ : ∃ y, y = s.sealed[i] := ⟨_, rfl⟩
  rw [← hy] at hW s0 hyl
  replace hW : W = (q8s y x).isSome := hW
  have hb : (q8s y x).isSome = true → q6f y.r y.e y.j y.c x.k = true := by
   unfold q8s k4c
   cases q6f y.r y.e y.j y.c x.k <;> simp
  have co2 : ∀ st, Rets P F.q2h [y.pv, q5k false x.k, .agg (q5e x.s.1)] st (.tuple [k22 (q8s y x), .bool (q8s y x).isSome, .int (if q6f y.r y.e y.j y.c x.k then 0 else 340)]) := fun st => k71 false false y.r y.e y.j y.c x.k hyl hx y.d.1 x.s.1 y.d.2 x.s.2 st
  generalize q8s y x = O at *
  generalize q6f y.r y.e y.j y.c x.k = B at *
  clear hy hyl hx hc e1 e2
  subst hW
  cases O with
  | none =>
   clear hb
   simp only [k22, Option.isSome_none] at co2 ⊢
   refine H.q2o.pure q5n rfl rfl ?_
   repeat' (first 
    | (with_reducible refine Fresh.intro fun b hb => ?_) <;> (try simp -dsimp -implicitDefEqProofs [*] at hb)
    | (with_reducible refine Rets.xcall (cc _) ?_)
    | (with_reducible refine Rets.xcall (co2 _) ?_)
    | (with_reducible refine DrawLate.intro [] ?_)
    | (simp -dsimp -implicitDefEqProofs [*]))
  | some m =>
   obtain rfl := hb rfl
   clear hb
   simp only [k22, Option.isSome_some, if_true] at co2 ⊢
   refine H.q2o.pure q5n rfl rfl ?_
   repeat' (first 
    | (with_reducible refine Fresh.intro fun b hb => ?_) <;> (try simp -dsimp -implicitDefEqProofs [*] at hb)
    | (with_reducible refine Rets.xcall (cc _) ?_)
    | (with_reducible refine Rets.xcall (co2 _) ?_)
    | (with_reducible refine DrawLate.intro [] ?_)
    | (simp -dsimp -implicitDefEqProofs [*]))
open Go.Pv
set_option maxRecDepth 100000
set_option maxHeartbeats 8000000
theorem y0y (s : Ses) : r1B s = true ↔ (∀ i (h : i + 1 < s.judges.length), s.judges[i] < s.judges[i + 1]) ∧ ∀ i (h : i < s.judges.length), wiL s.judges[i] 256 = true := by
 unfold r1B
 rw [Bool.and_eq_true, q72, List.all_eq_true]
 constructor
 ·rintro ⟨h1, h2⟩
  exact ⟨fun i h => q74.1 (h1 i h), fun i h => h2 _ (List.getElem_mem h)⟩
 ·rintro ⟨h1, h2⟩
  refine ⟨fun i h => q74.2 (h1 i h), fun x hx => ?_⟩
  obtain ⟨i, hi, rfl⟩ := List.mem_iff_getElem.1 hx
  exact h2 i hi
theorem z7x (s : Ses) : k03 s = true ↔ wiL s.round 8 = true ∧ wiL s.entry 4096 = true ∧ (1 ≤ s.crits ∧ s.crits ≤ 64) ∧ (1 ≤ s.judges.length ∧ s.judges.length ≤ 24) ∧ (1 ≤ s.need ∧ s.need ≤ s.judges.length) ∧ wiL s.deadline 2097152 = true ∧ wiL s.time 2097152 = true := by
 unfold k03
 simp only [Bool.and_eq_true]
 rw [k93 (n := s.crits - 1), k93 (n := (s.judges.length : Int) - 1), k93 (n := s.need - 1)]
 constructor
 ·rintro ⟨⟨⟨⟨⟨⟨a1, a2⟩, a3⟩, a4⟩, a5⟩, a6⟩, a7⟩
  exact ⟨a1, a2, by omega, by omega, by omega, a6, a7⟩
 ·rintro ⟨a1, a2, a3, a4, a5, a6, a7⟩
  exact ⟨⟨⟨⟨⟨⟨a1, a2⟩, by omega⟩, by omega⟩, by omega⟩, a6⟩, a7⟩
theorem z5s (s : Ses) (hs : s.judges.length ≤ 100000) (st : q5d) : Rets P F.q3q [s.pv] st (.bool (k03 s && r1B s)) := by
 have c1 := q8e s.round 8
 have c2 := q8e s.entry 4096
 have c3 := q8e s.deadline 2097152
 have c4 := q8e s.time 2097152
 obtain ⟨W, hW⟩ : ∃ W, W = (k03 s && r1B s) := ⟨_, rfl⟩
 rw [← hW]
 have hWi : W = true ↔ (wiL s.round 8 = true ∧ wiL s.entry 4096 = true ∧ (1 ≤ s.crits ∧ s.crits ≤ 64) ∧ (1 ≤ s.judges.length ∧ s.judges.length ≤ 24) ∧ (1 ≤ s.need ∧ s.need ≤ s.judges.length) ∧ wiL s.deadline 2097152 = true ∧ wiL s.time 2097152 = true) ∧ (∀ i (h : i + 1 < s.judges.length), s.judges[i] < s.judges[i + 1]) ∧ ∀ i (h : i < s.judges.length), wiL s.judges[i] 256 = true := by
  rw [hW, Bool.and_eq_true, z7x, y0y]
 clear hW
 generalize wiL s.round 8 = A1 at *
 generalize wiL s.entry 4096 = A2 at *
 generalize wiL s.deadline 2097152 = A3 at *
 generalize wiL s.time 2097152 = A4 at *
 have hWi := Hid.mk hWi
 rename_i hold
 clear hold
 refine H.q3q.view q5n rfl rfl ?_
 by_cases g1 : A1 = true ∧ A2 = true ∧ (1 ≤ s.crits ∧ s.crits ≤ 64) ∧ (1 ≤ s.judges.length ∧ s.judges.length ≤ 24)
 case neg =>
  have hWf : W = false := Bool.eq_false_iff.2 fun e => g1 ⟨(hWi.out.1 e).1.1, (hWi.out.1 e).1.2.1, (hWi.out.1 e).1.2.2.1, (hWi.out.1 e).1.2.2.2.1⟩
  subst hWf
  clear hWi
  cases A1 with
  | false =>
   clear g1
   repeat' (first 
    | (with_reducible refine Fresh.intro fun b hb => ?_) <;> (try simp -dsimp -implicitDefEqProofs [*] at hb)
    | (with_reducible refine Rets.xcall (c1 _) ?_)
    | (simp -dsimp -implicitDefEqProofs [*]))
   exact RetView.drop (st' := st) q5q ⟨rfl, rfl⟩
  | true =>
   cases A2 with
   | false =>
    clear g1
    repeat' (first 
     | (with_reducible refine Fresh.intro fun b hb => ?_) <;> (try simp -dsimp -implicitDefEqProofs [*] at hb)
     | (with_reducible refine Rets.xcall (c1 _) ?_)
     | (with_reducible refine Rets.xcall (c2 _) ?_)
     | (simp -dsimp -implicitDefEqProofs [*]))
    exact RetView.drop (st' := st) q5q ⟨rfl, rfl⟩
   | true =>
    by_cases h3 : s.crits < 1
    ·clear g1
     repeat' (first 
      | (with_reducible refine Fresh.intro fun b hb => ?_) <;> (try simp -dsimp -implicitDefEqProofs [*] at hb)
      | (with_reducible refine Rets.xcall (c1 _) ?_)
      | (with_reducible refine Rets.xcall (c2 _) ?_)
      | (simp -dsimp -implicitDefEqProofs [*]))
     exact RetView.drop (st' := st) q5q ⟨rfl, rfl⟩
    by_cases h4 : 64 < s.crits
    ·clear g1
     repeat' (first 
      | (with_reducible refine Fresh.intro fun b hb => ?_) <;> (try simp -dsimp -implicitDefEqProofs [*] at hb)
      | (with_reducible refine Rets.xcall (c1 _) ?_)
      | (with_reducible refine Rets.xcall (c2 _) ?_)
      | (simp -dsimp -implicitDefEqProofs [*]))
     exact RetView.drop (st' := st) q5q ⟨rfl, rfl⟩
    by_cases h5 : (s.judges.length : Int) < 1
    ·clear g1
     repeat' (first 
      | (with_reducible refine Fresh.intro fun b hb => ?_) <;> (try simp -dsimp -implicitDefEqProofs [*] at hb)
      | (with_reducible refine Rets.xcall (c1 _) ?_)
      | (with_reducible refine Rets.xcall (c2 _) ?_)
      | (simp -dsimp -implicitDefEqProofs [*]))
     exact RetView.drop (st' := st) q5q ⟨rfl, rfl⟩
    by_cases h6 : (24 : Int) < s.judges.length
    ·clear g1
     repeat' (first 
      | (with_reducible refine Fresh.intro fun b hb => ?_) <;> (try simp -dsimp -implicitDefEqProofs [*] at hb)
      | (with_reducible refine Rets.xcall (c1 _) ?_)
      | (with_reducible refine Rets.xcall (c2 _) ?_)
      | (simp -dsimp -implicitDefEqProofs [*]))
     exact RetView.drop (st' := st) q5q ⟨rfl, rfl⟩
    exact absurd ⟨rfl, rfl, by omega, by omega⟩ g1
 obtain ⟨a1, a2, a3, a4⟩ := g1
 subst a1
 subst a2
 have h3 : ¬ s.crits < 1 := by omega
 have h4 : ¬ 64 < s.crits := by omega
 have h5 : ¬ (s.judges.length : Int) < 1 := by omega
 have h6 : ¬ (24 : Int) < s.judges.length := by omega
 repeat' (first 
  | (with_reducible refine Fresh.intro fun b hb => ?_) <;> (try simp -dsimp -implicitDefEqProofs [*] at hb)
  | (with_reducible refine Rets.xcall (c1 _) ?_)
  | (with_reducible refine Rets.xcall (c2 _) ?_)
  | (simp -dsimp -implicitDefEqProofs [*]))
 revert b; intro q hq
 clear c1 c2
 refine q5g (fun n : Nat => [(1, .ptr q 0), (3, .int n)]) (fun _ => (q, .arr T.apiSession s.enc) :: st) (fun n => n ≤ s.judges.length ∧ Hid ((∀ i (_ : i + 1 < n) (h : i + 1 < s.judges.length), s.judges[i] < s.judges[i + 1]) ∧ ∀ i (_ : i < n) (h : i < s.judges.length), wiL s.judges[i] 256 = true)) (fun n => s.judges.length - n) 0 ⟨Nat.zero_le _, ⟨fun i h => absurd h (by omega), fun i h => absurd h (by omega)⟩⟩ (by simp) (.refl _) ?_
 rintro n ⟨hn, hI⟩
 by_cases hnl : n < s.judges.length
 ·have hw := q5h (n := n) (by omega)
  have g1 := q6d s.judges n hnl
  have E1 : ∀ h, (q6j s.judges)[n]'h = .int s.judges[n] := fun h => q9n s.judges n h
  have cw := q8e s.judges[n] 256
  have k1 : Hid (wiL s.judges[n] 256 = false → W = false) := ⟨fun h => Bool.eq_false_iff.2 fun e => by have := (hWi.out.1 e).2.2 n hnl; rw [h] at this; cases this⟩
  cases hv : wiL s.judges[n] 256 with
  | false =>
   rw [hv] at cw
   have e := k1.out hv
   subst e
   clear k1 hv hWi hI
   repeat' (first 
    | (with_reducible refine Rets.xcall (cw _) ?_)
    | (with_reducible refine DrawLate.intro [] ?_)
    | (simp -dsimp -implicitDefEqProofs [*]))
   exact RetView.drop (st' := st) q5q ⟨rfl, rfl⟩
  | true =>
   rw [hv] at cw
   cases n with
   | zero =>
    have hI2 : Hid ((∀ i (_ : i + 1 < 1) (h : i + 1 < s.judges.length), s.judges[i] < s.judges[i + 1]) ∧ ∀ i (_ : i < 1) (h : i < s.judges.length), wiL s.judges[i] 256 = true) := ⟨fun i h => absurd h (by omega), fun i hi h => by
     have : i = 0 := by omega
     subst this
     exact hv⟩
    clear k1 hv hWi hI
    repeat' (first 
     | (with_reducible refine Rets.xcall (cw _) ?_)
     | (with_reducible refine DrawLate.intro [] ?_)
     | (simp -dsimp -implicitDefEqProofs [*]))
    exact Next.intro 1 ⟨by omega, hI2⟩ (by omega) (by simp) q5q
   | succ k =>
    have hkl : k < s.judges.length := by omega
    have g0 := q6d s.judges k hkl
    have E0 : ∀ h, (q6j s.judges)[k]'h = .int s.judges[k] := fun h => q9n s.judges k h
    have wk : IntKind.i64.wrap (((k + 1 : Nat) : Int) - 1) = (k : Int) := by rw [q5m (by omega) (by omega)]; omega
    have k2 : Hid (¬ s.judges[k] < s.judges[k + 1] → W = false) := ⟨fun h => Bool.eq_false_iff.2 fun e => h ((hWi.out.1 e).2.1 k hnl)⟩
    have hI2 : Hid (s.judges[k] < s.judges[k + 1] → (∀ i (_ : i + 1 < k + 1 + 1) (h : i + 1 < s.judges.length), s.judges[i] < s.judges[i + 1]) ∧ ∀ i (_ : i < k + 1 + 1) (h : i < s.judges.length), wiL s.judges[i] 256 = true) := ⟨fun hlt => ⟨fun i hi h => if e : i = k then by subst e; exact hlt else hI.out.1 i (by omega) h, fun i hi h => if e : i = k + 1 then by subst e; exact hv else hI.out.2 i (by omega) h⟩⟩
    obtain ⟨x, hx⟩ : ∃ x, x = s.judges[k] := ⟨_, rfl⟩
    obtain ⟨y, hy⟩ : ∃ y, y = s.judges[k + 1] := ⟨_, rfl⟩
    rw [← hx, ← hy] at hI2 k2
    rw [← hx] at g0
    rw [← hy] at g1 cw
    clear E0
    have E0 : ∀ h, (q6j s.judges)[k]'h = .int x := fun h => by have := List.getElem?_eq_getElem h; rw [g0] at this; exact (Option.some.inj this).symm
    clear E1
    obtain ⟨n, hnk⟩ : ∃ n, n = k + 1 := ⟨_, rfl⟩
    have hn0 : (0 : Int) < n := by omega
    rw [← hnk] at hw wk g1 hnl hn ⊢
    have E1 : ∀ h, (q6j s.judges)[n]'h = .int y := fun h => by have := List.getElem?_eq_getElem h; rw [g1] at this; exact (Option.some.inj this).symm
    have hI3 : Hid (x < y → (∀ i (_ : i + 1 < n + 1) (h : i + 1 < s.judges.length), s.judges[i] < s.judges[i + 1]) ∧ ∀ i (_ : i < n + 1) (h : i < s.judges.length), wiL s.judges[i] 256 = true) := ⟨by rw [hnk]; exact hI2.out⟩
    clear hI2 hI k1 hv hx hy hnk hWi
    by_cases hxy : x < y
    ·have hI4 := Hid.mk (hI3.out hxy)
     have hxy2 : ¬ y ≤ x := by omega
     clear hI3 k2
     repeat' (first 
      | (with_reducible refine Rets.xcall (cw _) ?_)
      | (with_reducible refine DrawLate.intro [] ?_)
      | (with_reducible refine And.intro (fun h => ?_) (fun h => ?_)) <;> (try (exfalso; omega))
      | (simp -dsimp -implicitDefEqProofs [*]))
     exact Next.intro (n + 1) ⟨by omega, hI4⟩ (by omega) (by simp) q5q
    ·have e := k2.out hxy
     have hxy2 : y ≤ x := by omega
     subst e
     clear hI3 k2
     repeat' (first 
      | (with_reducible refine Rets.xcall (cw _) ?_)
      | (with_reducible refine DrawLate.intro [] ?_)
      | (with_reducible refine And.intro (fun h => ?_) (fun h => ?_)) <;> (try (exfalso; omega))
      | (simp -dsimp -implicitDefEqProofs [*]))
     exact RetView.drop (st' := st) q5q ⟨rfl, rfl⟩
 ·obtain rfl : n = s.judges.length := by omega
  have e : W = (decide (1 ≤ s.need) && decide (s.need ≤ s.judges.length) && A3 && A4) := by
   rw [Bool.eq_iff_iff, hWi.out]
   simp only [Bool.and_eq_true, decide_eq_true_eq]
   constructor
   ·rintro ⟨⟨-, -, -, -, b1, b2, b3⟩, -⟩
    exact ⟨⟨b1, b2⟩, b3⟩
   ·rintro ⟨⟨b1, b2⟩, b3⟩
    exact ⟨⟨trivial, trivial, a3, a4, b1, b2, b3⟩, fun i h => hI.out.1 i h h, fun i h => hI.out.2 i h h⟩
  subst e
  clear hWi hI
  by_cases b1 : 1 ≤ s.need
  ·by_cases b2 : s.need ≤ s.judges.length
   ·repeat' (first 
     | (with_reducible refine Rets.xcall (c3 _) ?_)
     | (with_reducible refine Rets.xcall (c4 _) ?_)
     | (with_reducible refine And.intro (fun h => ?_) (fun h => ?_)) <;> (try (exfalso; omega))
     | (simp -dsimp -implicitDefEqProofs [*]))
    all_goals exact RetView.drop (st' := st) q5q ⟨rfl, rfl⟩
   ·repeat' (simp -dsimp -implicitDefEqProofs [*])
    all_goals exact RetView.drop (st' := st) q5q ⟨rfl, rfl⟩
  ·repeat' (simp -dsimp -implicitDefEqProofs [*])
   all_goals exact RetView.drop (st' := st) q5q ⟨rfl, rfl⟩
open Go.Pv
set_option maxRecDepth 100000
set_option maxHeartbeats 8000000
section
variable {α : Type}
structure PI (c : α → α → Int) (p : α → Bool) (l : List α) (n : Nat) : Prop where
 ord : ∀ i (_ : i + 1 < n) (h : i + 1 < l.length), c l[i] l[i + 1] < 0
 ok : ∀ i (_ : i < n) (h : i < l.length), p l[i] = true
theorem PI.zero {c : α → α → Int} {p : α → Bool} {l : List α} : PI c p l 0 := ⟨fun i h => absurd h (by omega), fun i h => absurd h (by omega)⟩
theorem PI.one {c : α → α → Int} {p : α → Bool} {l : List α} (h : 0 < l.length) (hp : p l[0] = true) : PI c p l 1 := ⟨fun i h => absurd h (by omega), fun i hi h => by
 have : i = 0 := by omega
 subst this
 exact hp⟩
theorem PI.step {c : α → α → Int} {p : α → Bool} {l : List α} {k : Nat} (hI : PI c p l (k + 1)) (h : k + 1 < l.length) (hp : p l[k + 1] = true) (hc : c l[k] l[k + 1] < 0) : PI c p l (k + 1 + 1) :=
 ⟨fun i hi h2 => if e : i = k then by subst e; exact hc else hI.ord i (by omega) h2, fun i hi h2 => if e : i = k + 1 then by subst e; exact hp else hI.ok i (by omega) h2⟩
theorem PI.all {c : α → α → Int} {p : α → Bool} {l : List α} (hI : PI c p l l.length) : (q53 c l && l.all p) = true := by
 rw [Bool.and_eq_true, q72, List.all_eq_true]
 refine ⟨fun i h => hI.ord i h h, fun x hx => ?_⟩
 obtain ⟨i, hi, rfl⟩ := List.mem_iff_getElem.1 hx
 exact hI.ok i hi hi
theorem k94 {c : α → α → Int} {p : α → Bool} {l : List α} {k : Nat} (h : k + 1 < l.length) (hc : ¬ c l[k] l[k + 1] < 0) : (q53 c l && l.all p) = false :=
 Bool.eq_false_iff.2 fun e => hc ((q72 c l).1 (Bool.and_eq_true_iff.1 e).1 k h)
theorem z3y {c : α → α → Int} {p : α → Bool} {l : List α} {k : Nat} (h : k < l.length) (hp : p l[k] = false) : (q53 c l && l.all p) = false :=
 Bool.eq_false_iff.2 fun e => by
  have := List.all_eq_true.1 (Bool.and_eq_true_iff.1 e).2 _ (List.getElem_mem h)
  rw [hp] at this
  cases this
end
end Go.Proofs.YtnooplpbpfiapaaGreatDoor
