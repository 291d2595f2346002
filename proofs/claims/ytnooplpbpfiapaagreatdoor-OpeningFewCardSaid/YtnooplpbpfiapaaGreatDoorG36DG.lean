/- OpeningClosed. -/
import Derived.Test.YtnooplpbpfiapaaGreatDoorG36CF
import Derived.Test.YtnooplpbpfiapaaGreatDoorG36CA
namespace Go.Proofs.YtnooplpbpfiapaaGreatDoor
open Go.Pv Go.Pv.Ip
set_option maxRecDepth 100000
set_option maxHeartbeats 16000000
theorem j00 (a b : Int) (st : q43) : Rets P F.q4q [.int a, .int b] st (.int ((a + b) % Qi)) := by
 have c := z3c a b true
 rw [← Int.add_emod] at c
 refine H.q4q.pure q5d rfl rfl ?_
 repeat' (first 
  | (with_reducible refine Rets.xcall (c _) ?_)
  | (with_reducible refine Lit.imm ?_)
  | (simp -dsimp -implicitDefEqProofs [*]))
open Go.Pv
set_option maxRecDepth 100000
set_option maxHeartbeats 16000000
theorem Opd.row_drop (l : List Opd) (i : Nat) : (Opd.row l).drop (i * 2) = Opd.row (l.drop i) := k2z Opd.enc 2 Opd.len l i
theorem Opd.row_take (l : List Opd) (i : Nat) : (Opd.row l).take (i * 2) = Opd.row (l.take i) := k8t Opd.enc 2 Opd.len l i
theorem Opd.row_one (l : List Opd) (n : Nat) (h : n < l.length) : List.drop (n * 2) (List.take ((n + 1) * 2) (Opd.row l)) = l[n].enc := by
 rw [Opd.row_take, Opd.row_drop, List.take_succ_eq_append_getElem h, List.drop_left' (by rw [List.length_take]; omega)]
 simp [Opd.row]
end Go.Proofs.YtnooplpbpfiapaaGreatDoor
