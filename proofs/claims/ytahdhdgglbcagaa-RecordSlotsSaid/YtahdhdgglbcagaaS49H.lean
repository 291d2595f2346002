/- The chapter's examples. -/
import Derived.Test.YtahdhdgglbcagaaS49G
import Derived.Test.YtahdhdgglbcagaaLAv
namespace Go.Proofs.Ytahdhdgglbcagaa
open Go.Pv
set_option maxRecDepth 100000
set_option maxHeartbeats 4000000
theorem mark_spec (no v at' kn : Int) (st : Store) : Rets P F.podiumlaw49_mark [.int no, .int v, .int at', .int kn] st (Event.mk no 1 1 2 1 0 v at' kn).pv := by
  refine (H.podiumlaw49_mark).pure hmix rfl rfl ?_
  repeat' (first
    | (with_reducible refine Fresh.intro fun b hb => ?_) <;> (try simp -dsimp -implicitDefEqProofs [*] at hb)
    | (with_reducible refine Lit.imm ?_)
    | ((with_reducible refine Grow.intro ?_ fun b cap hb hc1 hc2 => ?_); omega) <;> (try simp -dsimp -implicitDefEqProofs [*] at hb)
    | (with_reducible refine RetView.nil2 ?_)
    | (with_reducible refine RetView.nil1 ?_)
    | (with_reducible refine RetView.loose2 (t := true) ?_)
    | (with_reducible refine RetView.loose1 (t := true) ?_)
    | (with_reducible refine RetView.fz 1 ?_ ?_)
    | (with_reducible refine RetView.same ?_)
    | (with_reducible refine DrawLate.intro [] ?_)
    | (with_reducible refine Cls_and ?_ ?_)
    | (with_reducible exact Cls.self _ _)
    | (with_reducible refine Cls_same ?_)
    | (with_reducible refine Cls_in ?_ ?_)
    | (with_reducible refine Cls_fresh ?_ ?_)
    | (with_reducible refine And.intro (fun h => ?_) (fun h => ?_)) <;> (try (exfalso; omega))
    | (with_reducible refine And.intro (fun h => ?_) ?_) <;> (try (exfalso; omega))
    | ((with_reducible refine and_keep ?_ fun hk => ?_); omega)
    | (simp -dsimp -implicitDefEqProofs [Event.fold, *]))
def l1 (x : Event) : List Event := [x]
theorem fold1 (t : Bool) (x : Event) : PV.list t x.enc 1 = Event.lst t (l1 x) := rfl
def l2 (x y : Event) : List Event := [x, y]
theorem fold2 (t : Bool) (x y : Event) : PV.list t (setCells (setCells [.int 0, .int 0, .int 0, .int 0, .int 0, .int 0, .int 0, .int 0, .int 0, .int 0, .int 0, .int 0, .int 0, .int 0, .int 0, .int 0, .int 0, .int 0] 0 x.enc) 9 y.enc) 2 = Event.lst t (l2 x y) := rfl
def l3 (x y z : Event) : List Event := [x, y, z]
theorem fold3 (t : Bool) (x y z : Event) : PV.list t (setCells (setCells (setCells [.int 0, .int 0, .int 0, .int 0, .int 0, .int 0, .int 0, .int 0, .int 0, .int 0, .int 0, .int 0, .int 0, .int 0, .int 0, .int 0, .int 0, .int 0, .int 0, .int 0, .int 0, .int 0, .int 0, .int 0, .int 0, .int 0, .int 0] 0 x.enc) 9 y.enc) 18 z.enc) 3 = Event.lst t (l3 x y z) := by
  simp [setCells, Event.enc, Event.row, l3]
theorem fold0 (t : Bool) : PV.list t [.int 0, .int 0, .int 0, .int 0, .int 0, .int 0, .int 0, .int 0, .int 0] 1 = Event.lst t (l1 ⟨0, 0, 0, 0, 0, 0, 0, 0, 0⟩) := rfl
abbrev eA : Event := ⟨1, 1, 1, 2, 1, 0, 5, 3, 3⟩
abbrev eB : Event := ⟨4, 1, 1, 2, 1, 0, 7, 4, 9⟩
abbrev eO : Event := ⟨2, 1, 1, 2, 3, 0, 9, 0, 0⟩
theorem L1 : standL (l3 eA eO eB) 6 8 = l2 eA eO ∧ standN (l3 eA eO eB) 6 8 = 0 := by decide
theorem L2 : standL (l3 eA eO eB) 6 9 = l2 eO eB ∧ standN (l3 eA eO eB) 6 9 = 0 := by decide
theorem L3 : standL (l3 eA eO eB) 3 9 = l2 eA eO ∧ standN (l3 eA eO eB) 3 9 = 0 := by decide
theorem L4 : standL (l3 eA eO eB) 2 9 = l1 eO ∧ standN (l3 eA eO eB) 2 9 = 0 := by decide
theorem L5 : standL [] 0 0 = [] ∧ standN [] 0 0 = 0 := by decide
theorem L6 : standN (l3 eA eO eB) (-1) 0 = 1 := by decide
theorem L7 : addL (l2 eA eB) eO = l3 eA eO eB ∧ addN (l2 eA eB) eO = 0 := by decide
theorem L8 : addN (l3 eA eO eB) eA = 141 := by decide
theorem L9 : addN [] ⟨1, 1, 1, 2, 1, 0, 1001, 0, 0⟩ = 490 := by decide
theorem L10 : checkE (l3 eA eO eB) = 0 ∧ checkE (l1 ⟨0, 0, 0, 0, 0, 0, 0, 0, 0⟩) = 490 ∧ checkE (l2 eB eA) = 490 := by decide
end Go.Proofs.Ytahdhdgglbcagaa
