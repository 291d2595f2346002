/- The reference: events, decisions and notes in form; valid parties. -/
import Derived.Test.YtmlmoaimjifpgaaGreatN58G
import Derived.Test.YtmlmoaimjifpgaaGreatO58A
namespace Go.Proofs.YtmlmoaimjifpgaaGreat
open Go.Pv Go.Pv.Cd
set_option maxRecDepth 100000
set_option maxHeartbeats 4000000
theorem z3k (d : Decision) (st : q43) : Rets P F.q3e [d.pv] st (.bool (q66 d)) := by
 refine H.q3e.pure q5d rfl rfl ?_
 by_cases h1 : d.no < 0
 ·have hv : q66 d = false := by simp [q66, btw]; intros; omega
  repeat' (first 
   | (with_reducible refine Fresh.intro fun b hb => ?_) <;> (try simp -dsimp -implicitDefEqProofs [*] at hb)
   | (simp -dsimp -implicitDefEqProofs [q7l, *]))
 by_cases h2 : 1048576 < d.no
 ·have hv := k3g (d := d) (by omega)
  repeat' (first 
   | (with_reducible refine Fresh.intro fun b hb => ?_) <;> (try simp -dsimp -implicitDefEqProofs [*] at hb)
   | (simp -dsimp -implicitDefEqProofs [q7l, *]))
 by_cases h3 : d.known < 0
 ·have hv := k3g (d := d) (by omega)
  repeat' (first 
   | (with_reducible refine Fresh.intro fun b hb => ?_) <;> (try simp -dsimp -implicitDefEqProofs [*] at hb)
   | (simp -dsimp -implicitDefEqProofs [q7l, *]))
 by_cases h4 : 2097152 ≤ d.known
 ·have hv := k3g (d := d) (by omega)
  repeat' (first 
   | (with_reducible refine Fresh.intro fun b hb => ?_) <;> (try simp -dsimp -implicitDefEqProofs [*] at hb)
   | (simp -dsimp -implicitDefEqProofs [q7l, *]))
 have hv : q66 d = q7r d := k80 (last := -1) (by omega) (by omega) (by omega) (by omega) (by omega)
 rw [hv]
 clear hv
 by_cases k1 : d.kind = 1
 ·have hr : q7r d = k38 d := by simp [q7r, k1]
  rw [hr]
  unfold k38 k2v
  repeat' (first 
   | (with_reducible refine Fresh.intro fun b hb => ?_) <;> (try simp -dsimp -implicitDefEqProofs [*] at hb)
   | (with_reducible refine And.intro (fun h => ?_) (fun h => ?_)) <;> (try (exfalso; omega))
   | (simp -dsimp -implicitDefEqProofs [q7l, *]))
  all_goals first | (intros; omega) | grind
 by_cases k2 : d.kind = 2
 ·have hr : q7r d = k8z d := by simp [q7r, k2]
  rw [hr]
  unfold k8z k2v
  repeat' (first 
   | (with_reducible refine Fresh.intro fun b hb => ?_) <;> (try simp -dsimp -implicitDefEqProofs [*] at hb)
   | (with_reducible refine And.intro (fun h => ?_) (fun h => ?_)) <;> (try (exfalso; omega))
   | (simp -dsimp -implicitDefEqProofs [q7l, *]))
  all_goals first | (intros; omega) | grind
 by_cases k3 : d.kind = 3
 ·have hr : q7r d = addD d := by simp [q7r, k3]
  rw [hr]
  unfold addD
  repeat' (first 
   | (with_reducible refine Fresh.intro fun b hb => ?_) <;> (try simp -dsimp -implicitDefEqProofs [*] at hb)
   | (with_reducible refine Rets.xcall (j1h _ _) ?_)
   | (with_reducible refine And.intro (fun h => ?_) (fun h => ?_)) <;> (try (exfalso; omega))
   | (simp -dsimp -implicitDefEqProofs [q7l, *]))
  all_goals first | (intros; omega) | grind
 ·have hr : q7r d = false := by simp [q7r, k1, k2, k3]
  rw [hr]
  repeat' (first 
   | (with_reducible refine Fresh.intro fun b hb => ?_) <;> (try simp -dsimp -implicitDefEqProofs [*] at hb)
   | (simp -dsimp -implicitDefEqProofs [q7l, *]))
  all_goals first | (intros; omega) | grind
theorem z0a (t : Bool) (l : List Decision) (st : q43) : Rets P F.q2v [Decision.lst t l] st (.int (q8b l)) := by
 refine H.q2v.pure q5d rfl rfl ?_
 repeat' (first 
  | (with_reducible refine And.intro (fun h => ?_) (fun h => ?_)) <;> (try (exfalso; omega))
  | (simp -dsimp -implicitDefEqProofs [*]))
 ·simp [q8b]; omega
 ·refine q44 (fun i => [(0, Decision.lst t l), (3, .int (i : Nat))]) (fun _ => st) (fun i => i ≤ l.length ∧ okD (l.take i)) (fun i => l.length - i) 0 ?_ ?_ ?_ ?_
  ·exact ⟨Nat.zero_le _, by simpa using z71⟩
  ·simp
  ·exact StLe.refl _
  rintro i ⟨hi, hok⟩
  have hw := q46 (n := i) (by omega)
  have hw2 : IntKind.i64.wrap ((i : Int) - 1) = (i : Int) - 1 := q5a (by omega) (by omega)
  have ht : ((i : Int) - 1).toNat = i - 1 := by omega
  have hlast : 0 < i → ∀ h : i - 1 < l.length, k5b (l.take i) = l[i - 1].no := fun h0 h => by
   have := z1c h
   rwa [Nat.sub_add_cancel h0] at this
  have hl0 : i = 0 → k5b (l.take i) = -1 := fun h => by subst h; simp
  have hno := fun (hil : i < l.length) hn => (z5i hil hok (by omega) hn)
  have hst := fun (hil : i < l.length) => (z2w hil hok)
  have hfin : l.length ≤ i → q8b l = 0 := fun h => by rw [List.take_of_length_le h] at hok; exact (k1l.2 ⟨by omega, hok⟩)
  clear hok
  generalize k5b (l.take i) = last at *
  repeat' (first 
   | (with_reducible refine Rets.xcall (z3k _ _) ?_)
   | (with_reducible refine DrawLate.intro [] ?_)
   | (with_reducible refine And.intro (fun h => ?_) (fun h => ?_)) <;> (try (exfalso; omega))
   | ((with_reducible refine q5i ?_ fun hk => ?_); omega)
   | (simp -dsimp -implicitDefEqProofs [*]))
  ·have e : last < (l[i]'(by assumption)).no := by rw [hlast (by omega) (by omega)]; exact h
   exact Next.intro (i + 1) ⟨by omega, (hst (by assumption)).2 ⟨by assumption, e⟩⟩ (by omega) (by simp [*]) q5k
  ·subst h
   have hv : q66 (l[0]'(by assumption)) = true := by assumption
   have e : last < (l[0]'(by assumption)).no := by rw [hl0 rfl]; have := k5c hv; omega
   exact Next.intro 1 ⟨by omega, (hst (by assumption)).2 ⟨hv, e⟩⟩ (by omega) (by simp) q5k
theorem z0b (d : Decision) (st : q43) : Rets P F.q2v [.list true d.enc 1] st (.int (q8b [d])) := by
 have := z0a true [d] st
 have e : Decision.lst true [d] = .list true d.enc 1 := by simp [Decision.lst]
 rwa [e] at this
theorem z6d (n : Note) (st : q43) : Rets P F.q1m [n.pv] st (.bool (q5c n)) := by
 have k2 := z1d n.dec
 have c1 := fun st => k5a n.ev st
 have c2 := fun st => z0b n.dec st
 generalize q8b [n.dec] = E2 at *
 by_cases h1 : n.kind = 1
 ·have ef : q5c n = (q7m n.ev && decide (n.dec = zeroD)) := by unfold q5c; rw [if_pos h1]
  rw [ef]
  clear ef k2 c2
  by_cases hz : n.dec = zeroD
  ·rw [decide_eq_true hz, Bool.and_true]
   generalize q7m n.ev = E1 at *
   have hs := n.subDec
   rw [hz] at hs
   refine H.q1m.pure q5d rfl rfl ?_
   repeat' (first 
    | (with_reducible refine Fresh.intro fun b hb => ?_) <;> (try simp -dsimp -implicitDefEqProofs [*] at hb)
    | (with_reducible refine Rets.xcall (c1 _) ?_)
    | (simp -dsimp -implicitDefEqProofs [k5g, *]))
  ·rw [decide_eq_false hz, Bool.and_false]
   refine H.q1m.pure q5d rfl rfl ?_
   repeat' (first 
    | (with_reducible refine Fresh.intro fun b hb => ?_) <;> (try simp -dsimp -implicitDefEqProofs [*] at hb)
    | (with_reducible refine Rets.xcall (c1 _) ?_)
    | (simp -dsimp -implicitDefEqProofs [k5g, *]))
 by_cases h2 : n.kind = 2
 ·have ef : q5c n = (q66 n.dec && decide (n.ev = zeroE)) := by unfold q5c; rw [if_neg h1, decide_eq_true h2, Bool.true_and]
  rw [ef]
  clear ef c1
  by_cases hz : n.ev = zeroE
  ·have e : (q66 n.dec && decide (n.ev = zeroE)) = decide (E2 = 0) := by
    rw [decide_eq_true hz, Bool.and_true, Bool.eq_iff_iff, decide_eq_true_eq]
    exact k2.symm
   rw [e]
   clear e k2
   have hs := n.subEv
   rw [hz] at hs
   refine H.q1m.pure q5d rfl rfl ?_
   repeat' (first 
    | (with_reducible refine Fresh.intro fun b hb => ?_) <;> (try simp -dsimp -implicitDefEqProofs [*] at hb)
    | (with_reducible refine Rets.xcall (c2 _) ?_)
    | (with_reducible refine Lit.imm ?_)
    | (simp -dsimp -implicitDefEqProofs [q7l, *]))
  ·rw [decide_eq_false hz, Bool.and_false]
   clear k2
   refine H.q1m.pure q5d rfl rfl ?_
   repeat' (first 
    | (with_reducible refine Fresh.intro fun b hb => ?_) <;> (try simp -dsimp -implicitDefEqProofs [*] at hb)
    | (with_reducible refine Rets.xcall (c2 _) ?_)
    | (with_reducible refine Lit.imm ?_)
    | (simp -dsimp -implicitDefEqProofs [q7l, *]))
 ·have ef : q5c n = false := by unfold q5c; rw [if_neg h1, decide_eq_false h2]; rfl
  rw [ef]
  clear ef k2 c1 c2
  refine H.q1m.pure q5d rfl rfl ?_
  repeat' (first 
   | (with_reducible refine Fresh.intro fun b hb => ?_) <;> (try simp -dsimp -implicitDefEqProofs [*] at hb)
   | (simp -dsimp -implicitDefEqProofs [*]))
theorem q8q (l : List Note) (hl : l.length ≤ 100000) (r : Bool) (hr : r = true ↔ Rise q55 okN l ∧ l.length ≤ 4096) (st : q43) : Rets P F.q2h [.agg [Note.lst false l]] st (.bool r) := by
 have hno : Hid (¬ Rise q55 okN l → r = false) := ⟨fun h => by
  rw [← Bool.not_eq_true]
  exact fun h2 => h (hr.1 h2).1⟩
 have hye : Hid (Rise q55 okN l → r = decide ((l.length : Int) ≤ 4096)) := ⟨fun h => by
  rw [Bool.eq_iff_iff, hr, decide_eq_true_eq]
  exact ⟨fun h2 => by omega, fun h2 => ⟨h, by omega⟩⟩⟩
 clear hr
 refine H.q2h.view q5d rfl rfl ?_
 repeat' (first 
  | (with_reducible refine Fresh.intro fun b hb => ?_) <;> (try simp -dsimp -implicitDefEqProofs [*] at hb)
  | (simp -dsimp -implicitDefEqProofs [*]))
 refine q44 (fun i : Nat => [(1, .ptr b 0), (3, .int (i : Nat))]) (fun _ => (b, .arr T.apiPeer [Note.lst false l]) :: st) (fun i => i ≤ l.length ∧ Hid (Rise q55 okN (l.take i))) (fun i => l.length - i) 0 ⟨Nat.zero_le _, ⟨.nil⟩⟩ (by simp) (.refl _) ?_
 rintro i ⟨hi, hI⟩
 by_cases hil : i < l.length
 case neg =>
  obtain rfl : i = l.length := by omega
  have hR := hI.out
  rw [List.take_length] at hR
  have e := hye.out hR
  rw [e]
  clear hR e hye hno hI
  repeat' (simp -dsimp -implicitDefEqProofs [*])
  all_goals exact RetView.drop (st' := st) q5k ⟨rfl, rfl⟩
 have hwi := q46 (n := i) (by omega)
 have hs := Note.row_sub l i hil
 have hrl := Note.row_len l
 have f := fun st => z6d l[i] st
 cases hf : q5c l[i] with
 | false =>
  rw [hf] at f
  have e := hno.out fun h => by
   have := h.1 _ (List.getElem_mem hil)
   unfold okN at this
   rw [hf] at this
   cases this
  subst e
  clear hye hno hI hf
  generalize l[i] = x at *
  repeat' (first 
   | (with_reducible refine Rets.xcall (f _) ?_)
   | (with_reducible refine DrawLate.intro [] ?_)
   | (simp -dsimp -implicitDefEqProofs [*]))
  all_goals exact RetView.drop (st' := st) q5k ⟨rfl, rfl⟩
 | true =>
  rw [hf] at f
  by_cases h0 : i = 0
  ·subst h0
   have e := Hid.mk (k5i hil hI.out hf (fun h => absurd h (Nat.lt_irrefl 0)))
   clear hye hf hI
   have hw0 : IntKind.i64.wrap 1 = 1 := rfl
   generalize l[0] = x at *
   repeat' (first 
    | (with_reducible refine Rets.xcall (f _) ?_)
    | (with_reducible refine DrawLate.intro [] ?_)
    | (simp -dsimp -implicitDefEqProofs [*]))
   all_goals exact Next.intro 1 ⟨by omega, e⟩ (by omega) (by simp) q5k
  ·have hi1 : i - 1 < l.length := by omega
   have hw1 : IntKind.i64.wrap ((i : Int) - 1) = ((i - 1 : Nat) : Int) := by rw [q5a (by omega) (by omega)]; omega
   have hp : 0 < i := by omega
   have hs1 := Note.row_sub l (i - 1) hi1
   have hf1 : q5c l[i - 1] = true := hI.out.1 _ (by
    have h2 : i - 1 < (l.take i).length := by rw [List.length_take]; omega
    have := List.getElem_mem h2
    rwa [List.getElem_take] at this)
   have c := fun st => k4f l[i - 1] l[i] hf1 hf st
   by_cases hc : q55 l[i - 1] l[i] < 0
   ·have e := Hid.mk (k5i hil hI.out hf (fun _ _ => hc))
    have hc2 : ¬ 0 ≤ q55 l[i - 1] l[i] := by omega
    clear hye hno hf hf1 hI
    generalize q55 l[i - 1] l[i] = n at *
    generalize l[i - 1] = y at *
    generalize l[i] = x at *
    repeat' (first 
     | (with_reducible refine Rets.xcall (f _) ?_)
     | (with_reducible refine Rets.xcall (c _) ?_)
     | (with_reducible refine DrawLate.intro [] ?_)
     | (simp -dsimp -implicitDefEqProofs [*]))
    all_goals exact Next.intro (i + 1) ⟨by omega, e⟩ (by omega) (by simp) q5k
   ·have e := hno.out fun h => hc (j4h h (by omega) hil)
    have hc2 : 0 ≤ q55 l[i - 1] l[i] := by omega
    subst e
    clear hye hno hf hf1 hI
    generalize q55 l[i - 1] l[i] = n at *
    generalize l[i - 1] = y at *
    generalize l[i] = x at *
    repeat' (first 
     | (with_reducible refine Rets.xcall (f _) ?_)
     | (with_reducible refine Rets.xcall (c _) ?_)
     | (with_reducible refine DrawLate.intro [] ?_)
     | (simp -dsimp -implicitDefEqProofs [*]))
    all_goals exact RetView.drop (st' := st) q5k ⟨rfl, rfl⟩
end Go.Proofs.YtmlmoaimjifpgaaGreat
