/- The reference's bare, Strip, Open. -/
import Derived.Test.YtnooplpbpfiapaaGreatDoorS36X
import Derived.Test.YtnooplpbpfiapaaGreatDoorG36AD
import Derived.Test.YtnooplpbpfiapaaGreatDoorG36T
namespace Go.Proofs.YtnooplpbpfiapaaGreatDoor
open Go.Pv Go.Pv.Sha
set_option maxRecDepth 100000
set_option maxHeartbeats 4000000
open Go.Pv
set_option maxRecDepth 100000
set_option maxHeartbeats 8000000
theorem k8w (t u : Bool) (l m : List Int) (hl : l.length ≤ 9223372036854775807) (st : q37) : Rets P F.q1y [q4b t l, q4b u m] st (.bool (decide (l = m))) := by
 by_cases hlm : l.length = m.length
 case neg =>
  have hne : ¬ l = m := fun e => hlm (by rw [e])
  have hlm2 : ¬ (l.length : Int) = m.length := by omega
  rw [decide_eq_false hne]
  refine H.q1y.pure q4m rfl rfl ?_
  repeat' (simp -dsimp -implicitDefEqProofs [*])
 have hlm2 : (l.length : Int) = m.length := by omega
 refine H.q1y.view q4m rfl rfl ?_
 obtain ⟨w, hw⟩ : ∃ w, w = decide (l = m) := ⟨_, rfl⟩
 rw [← hw]
 have kw := Hid.mk hw
 clear hw
 repeat' (simp -dsimp -implicitDefEqProofs [*])
 refine q4e (fun n : Nat => [(0, q4b t l), (1, q4b u m), (5, .int n)]) (fun _ => st) (fun n => n ≤ l.length ∧ Hid (∀ j, j < n → ∀ (h : j < l.length) (h2 : j < m.length), l[j] = m[j])) (fun n => l.length - n) 0 ⟨Nat.zero_le _, ⟨fun j h => absurd h (by omega)⟩⟩ (by simp [*]) (.refl _) ?_
 rintro n ⟨hn, hI⟩
 by_cases hnl : n < l.length
 ·have hnm : n < m.length := by omega
  have hwr := q4d (n := n) (by omega)
  have g1 := q5a l n hnl
  have g2 := q5a m n hnm
  by_cases he : l[n] = m[n]
  ·have hI2 : Hid (∀ j, j < n + 1 → ∀ (h : j < l.length) (h2 : j < m.length), l[j] = m[j]) := ⟨fun j hj h h2 => if e : j = n then by subst e; exact he else hI.out j (by omega) h h2⟩
   clear hI kw
   repeat' (simp -dsimp -implicitDefEqProofs [*])
   exact Next.intro (n + 1) ⟨by omega, hI2⟩ (by omega) (by simp [hlm]) q4p
  ·have hw : w = false := by rw [kw.out]; exact decide_eq_false fun e => he (by subst e; rfl)
   subst hw
   clear hI kw
   repeat' (simp -dsimp -implicitDefEqProofs [*])
   exact .same ⟨rfl, rfl⟩
 ·have hw : w = true := by rw [kw.out]; exact decide_eq_true (z6y hlm fun j h h2 => hI.out j (by omega) h h2)
  subst hw
  obtain rfl : n = l.length := by omega
  clear hI kw
  repeat' (simp -dsimp -implicitDefEqProofs [*])
  exact .same ⟨rfl, rfl⟩
open Go.Pv
set_option maxRecDepth 100000
set_option maxHeartbeats 16000000
theorem z5p : zeroSes.Len := ⟨by simp [zeroSes], by simp [zeroSes], by simp [zeroSes], by simp [zeroSes], by simp [zeroSes], by simp [zeroSes], by simp [zeroSes], by simp [zeroSes]⟩
theorem q7q (t u : Bool) (l : List Opd) (hl : l.length ≤ 100000) (hm : ∀ x ∈ l, x.marks.length ≤ 9223372036854775807) (st : q37) : Rets P F.q0g [Opd.lst t l, Opd.lst u l] st (.bool true) := by
 have cS : Hid (∀ n (h : n < l.length) st, Rets P F.q1y [q4b false l[n].marks, q4b false l[n].marks] st (.bool true)) := ⟨fun n h st => by
  have := k8w false false l[n].marks l[n].marks (hm _ (List.getElem_mem h)) st
  rwa [decide_eq_true rfl] at this⟩
 clear hm
 refine H.q0g.view q4m rfl rfl ?_
 repeat' (simp -dsimp -implicitDefEqProofs [*])
 refine q4e (fun n : Nat => [(0, Opd.lst t l), (1, Opd.lst u l), (5, .int n)]) (fun _ => st) (fun n => n ≤ l.length) (fun n => l.length - n) 0 (Nat.zero_le _) (by simp) (.refl _) ?_
 intro n hn
 by_cases hnl : n < l.length
 ·have hw := q4d (n := n) (by omega)
  have g0 := Opd.row_get0 l n hnl
  have g1 := Opd.row_get1 l n hnl
  have c1 := cS.out n hnl
  obtain ⟨x, hx⟩ : ∃ x, x = l[n] := ⟨_, rfl⟩
  rw [← hx] at g0 g1 c1
  have G0 : ∀ h, (Opd.row l)[n * 2]'h = .int x.how := fun h => by have := List.getElem?_eq_getElem h; rw [g0] at this; exact (Option.some.inj this).symm
  have G1 : ∀ h, (Opd.row l)[n * 2 + 1]'h = q4b false x.marks := fun h => by have := List.getElem?_eq_getElem h; rw [g1] at this; exact (Option.some.inj this).symm
  have b0 : n * 2 < l.length * 2 := by omega
  have b1 : n * 2 + 1 < l.length * 2 := by omega
  clear hx cS
  repeat' (first 
   | (with_reducible refine Rets.xcall (c1 _) ?_)
   | (with_reducible refine DrawLate.intro [] ?_)
   | (simp -dsimp -implicitDefEqProofs [*]))
  exact Next.intro (n + 1) (by omega) (by omega) (by simp) q4p
 ·obtain rfl : n = l.length := by omega
  clear cS
  repeat' (simp -dsimp -implicitDefEqProofs [*])
  exact .same ⟨rfl, rfl⟩
end Go.Proofs.YtnooplpbpfiapaaGreatDoor
