/-
  No cell of these rows narrows 'for every input' (looked for: loops, veiled, ifaces, maps, wideKeys, modest, calm, conditions, laid).
  DERIVED. THE GIVEN ROWS OF THIS SEAT. 4 by the template 'for every input the law returns true; each argument reads behind the call as it read before'; 0 by the template 'total and deterministic' (their statements: YtliglilanpfjhaaTotals.lean).
  GIVEN WITH THE SEED: the statements are not yours to turn. If you find one false, say at which input.
  Laid BY PROGRAM, IN A SANDBOX (cutbox-rows.mjs): the forced cells as the released guide's own fill.sh prints them over the translation 9eeb475948ed745e… (all of the seat's roots in one cut). By AI agents, Wed Nov 11 2026. No macro, syntax, notation, axiom, sorry.
-/
import Derived.Test.YtliglilanpfjhaaChecked
import GoSem.Claim
import GoSem.ClaimJoined
import GoSem.ClaimMapViews
import Derived.JoinedTies
import Derived.KernelRfl
namespace Go.Proofs.Ytliglilanpfjhaa
/- THE CELL 'sum', in the pinned program and in every row, IS THE sha256 OF THE DUMP (.gsa) THAT YtliglilanpfjhaaProg.lean LOADS. Nothing in Lean hashes anything: it is a label: what it is worth is what the hold of that sum in a sandbox is worth. -/
noncomputable def Try.pinned : Pinned := { name := "ytliglilanpfjhaa", sum := "9eeb475948ed745e5ce45f908d7a565d5d1a3d628a0b85361a3c96d0d25c1240", checked := Try.checked }
namespace Rows
def none {H : Type} : Left H := { results := [], args := [] }

/-- 'podiumlaw21.TiesOrder': WHATEVER THE INPUT: true; the input reads as it did. -/
def tiesOrderSpec : ChangeSpec := { name := "tiesOrder", fn := fun _ => fun
  | [d1, d2, d3, d4] => { results := [.lit (.bool true)], args := [d1, d2, d3, d4] }
  | _ => none }
def tiesOrderRow : OpenClaim := { program := "ytliglilanpfjhaa", sum := "9eeb475948ed745e5ce45f908d7a565d5d1a3d628a0b85361a3c96d0d25c1240", func := "podium/podiumlaw21.TiesOrder", spec := "tiesOrder", unfollowed := true, recurses := true, apart := false }
def TiesOrderSaid : Prop := tiesOrderRow.holds Try.pinned (OpenSpec.ofChange tiesOrderSpec)

/-- ITS FALSE NEIGHBOUR: 'it returns false'. Refute it at one input. -/
def tiesOrderWrong : ChangeSpec := { name := "tiesOrder", fn := fun _ => fun
  | [d1, d2, d3, d4] => { results := [.lit (.bool false)], args := [d1, d2, d3, d4] }
  | _ => none }
def TiesOrderWrongFalsely : Prop := tiesOrderRow.holds Try.pinned (OpenSpec.ofChange tiesOrderWrong)

/-- 'podiumlaw21.TiesSort': WHATEVER THE INPUT: true; the input reads as it did. -/
def tiesSortSpec : ChangeSpec := { name := "tiesSort", fn := fun _ => fun
  | [d1, d2] => { results := [.lit (.bool true)], args := [d1, d2] }
  | _ => none }
def tiesSortRow : OpenClaim := { program := "ytliglilanpfjhaa", sum := "9eeb475948ed745e5ce45f908d7a565d5d1a3d628a0b85361a3c96d0d25c1240", func := "podium/podiumlaw21.TiesSort", spec := "tiesSort", unfollowed := true, recurses := true, apart := false }
def TiesSortSaid : Prop := tiesSortRow.holds Try.pinned (OpenSpec.ofChange tiesSortSpec)

/-- ITS FALSE NEIGHBOUR: 'it returns false'. Refute it at one input. -/
def tiesSortWrong : ChangeSpec := { name := "tiesSort", fn := fun _ => fun
  | [d1, d2] => { results := [.lit (.bool false)], args := [d1, d2] }
  | _ => none }
def TiesSortWrongFalsely : Prop := tiesSortRow.holds Try.pinned (OpenSpec.ofChange tiesSortWrong)

/-- 'podiumlaw21.TiesFurther': WHATEVER THE INPUT: true; the input reads as it did. -/
def tiesFurtherSpec : ChangeSpec := { name := "tiesFurther", fn := fun _ => fun
  | [d1, d2, d3, d4] => { results := [.lit (.bool true)], args := [d1, d2, d3, d4] }
  | _ => none }
def tiesFurtherRow : OpenClaim := { program := "ytliglilanpfjhaa", sum := "9eeb475948ed745e5ce45f908d7a565d5d1a3d628a0b85361a3c96d0d25c1240", func := "podium/podiumlaw21.TiesFurther", spec := "tiesFurther", unfollowed := true, recurses := true, apart := false }
def TiesFurtherSaid : Prop := tiesFurtherRow.holds Try.pinned (OpenSpec.ofChange tiesFurtherSpec)

/-- ITS FALSE NEIGHBOUR: 'it returns false'. Refute it at one input. -/
def tiesFurtherWrong : ChangeSpec := { name := "tiesFurther", fn := fun _ => fun
  | [d1, d2, d3, d4] => { results := [.lit (.bool false)], args := [d1, d2, d3, d4] }
  | _ => none }
def TiesFurtherWrongFalsely : Prop := tiesFurtherRow.holds Try.pinned (OpenSpec.ofChange tiesFurtherWrong)

/-- 'podiumlaw21.TiesLots': WHATEVER THE INPUT: true; the input reads as it did. -/
def tiesLotsSpec : ChangeSpec := { name := "tiesLots", fn := fun _ => fun
  | [d1, d2, d3] => { results := [.lit (.bool true)], args := [d1, d2, d3] }
  | _ => none }
def tiesLotsRow : OpenClaim := { program := "ytliglilanpfjhaa", sum := "9eeb475948ed745e5ce45f908d7a565d5d1a3d628a0b85361a3c96d0d25c1240", func := "podium/podiumlaw21.TiesLots", spec := "tiesLots", unfollowed := true, recurses := true, apart := false }
def TiesLotsSaid : Prop := tiesLotsRow.holds Try.pinned (OpenSpec.ofChange tiesLotsSpec)

/-- ITS FALSE NEIGHBOUR: 'it returns false'. Refute it at one input. -/
def tiesLotsWrong : ChangeSpec := { name := "tiesLots", fn := fun _ => fun
  | [d1, d2, d3] => { results := [.lit (.bool false)], args := [d1, d2, d3] }
  | _ => none }
def TiesLotsWrongFalsely : Prop := tiesLotsRow.holds Try.pinned (OpenSpec.ofChange tiesLotsWrong)

/- THE SECOND FORM. 'bulk': how many values and letters a reading holds, each counted each time it is reached (what is shared counts as often as it is met; a slice's spare places count too). A statement '..UptoSaid' is the law's where the arguments, and the package variables that the reading takes, are together of bulk at most 1048576: NARROWER than '..Said'. Prove '..Said' where nothing that the law and all that it calls make is longer than what came in: it says more and counts as full. Else prove '..UptoSaid'. A law counts once. -/
mutual
def uptoBulk {H : Type} : DataW H → Nat
  | .lit (.string bytes) => bytes.length + 1
  | .lit _ => 1
  | .nil => 1
  | .ptr d => uptoBulk d + 1
  | .slice elems spare => uptoBulkAll elems + uptoBulkAll spare + 1
  | .agg parts => uptoBulkAll parts + 1
  | .iface _ d => uptoBulk d + 1
  | .map entries => uptoBulkEntries entries + 1
  | .held _ => 1
def uptoBulkAll {H : Type} : List (DataW H) → Nat
  | [] => 0
  | d :: r => uptoBulk d + uptoBulkAll r
def uptoBulkEntries {H : Type} : List (Lit × DataW H) → Nat
  | [] => 0
  | x :: r => uptoBulkEntry x + uptoBulkEntries r
def uptoBulkEntry {H : Type} : Lit × DataW H → Nat
  | (.string bytes, d) => bytes.length + uptoBulk d + 1
  | (_, d) => uptoBulk d + 1
 end
def uptoSmall : (H : Type) → List (DataW H) → Bool := fun _ ds => decide (uptoBulkAll ds ≤ 1048576)
def OpenSpec.upto (s : _root_.Go.ChangeSpec) : _root_.Go.OpenSpec := { _root_.Go.OpenSpec.ofChange s with cond := some uptoSmall }

/-- 'podiumlaw21.TiesOrder', WHERE WHAT IT READS IS OF BULK AT MOST 1048576: true; the input reads as it did. -/
def tiesOrderUptoRow : OpenClaim := { program := "ytliglilanpfjhaa", sum := "9eeb475948ed745e5ce45f908d7a565d5d1a3d628a0b85361a3c96d0d25c1240", func := "podium/podiumlaw21.TiesOrder", spec := "tiesOrder", unfollowed := true, recurses := true, apart := false, narrowed := true }
def TiesOrderUptoSaid : Prop := tiesOrderUptoRow.holds Try.pinned (OpenSpec.upto tiesOrderSpec)

/-- 'podiumlaw21.TiesSort', WHERE WHAT IT READS IS OF BULK AT MOST 1048576: true; the input reads as it did. -/
def tiesSortUptoRow : OpenClaim := { program := "ytliglilanpfjhaa", sum := "9eeb475948ed745e5ce45f908d7a565d5d1a3d628a0b85361a3c96d0d25c1240", func := "podium/podiumlaw21.TiesSort", spec := "tiesSort", unfollowed := true, recurses := true, apart := false, narrowed := true }
def TiesSortUptoSaid : Prop := tiesSortUptoRow.holds Try.pinned (OpenSpec.upto tiesSortSpec)

/-- 'podiumlaw21.TiesFurther', WHERE WHAT IT READS IS OF BULK AT MOST 1048576: true; the input reads as it did. -/
def tiesFurtherUptoRow : OpenClaim := { program := "ytliglilanpfjhaa", sum := "9eeb475948ed745e5ce45f908d7a565d5d1a3d628a0b85361a3c96d0d25c1240", func := "podium/podiumlaw21.TiesFurther", spec := "tiesFurther", unfollowed := true, recurses := true, apart := false, narrowed := true }
def TiesFurtherUptoSaid : Prop := tiesFurtherUptoRow.holds Try.pinned (OpenSpec.upto tiesFurtherSpec)

/-- 'podiumlaw21.TiesLots', WHERE WHAT IT READS IS OF BULK AT MOST 1048576: true; the input reads as it did. -/
def tiesLotsUptoRow : OpenClaim := { program := "ytliglilanpfjhaa", sum := "9eeb475948ed745e5ce45f908d7a565d5d1a3d628a0b85361a3c96d0d25c1240", func := "podium/podiumlaw21.TiesLots", spec := "tiesLots", unfollowed := true, recurses := true, apart := false, narrowed := true }
def TiesLotsUptoSaid : Prop := tiesLotsUptoRow.holds Try.pinned (OpenSpec.upto tiesLotsSpec)

end Rows
end Go.Proofs.Ytliglilanpfjhaa
