/-
  No cell of these rows narrows 'for every input' (looked for: loops, veiled, ifaces, maps, wideKeys, modest, calm, conditions, laid).
  DERIVED. THE GIVEN ROWS OF THIS SEAT. 2 by the template 'for every input the law returns true; each argument reads behind the call as it read before'; 0 by the template 'total and deterministic' (their statements: YtiaebckdjklnoaaGreatTotals.lean).
  GIVEN WITH THE SEED: the statements are not yours to turn. If you find one false, say at which input.
  Laid BY PROGRAM, IN A SANDBOX (cutbox-rows.mjs): the forced cells as the released guide's own fill.sh prints them over the translation 47888014df1ba8a3… (all of the seat's roots in one cut). By AI agents, Wed Nov 11 2026. No macro, syntax, notation, axiom, sorry.
-/
import Derived.Test.YtiaebckdjklnoaaGreatChecked
import GoSem.Claim
import GoSem.ClaimJoined
import GoSem.ClaimMapViews
import Derived.JoinedTies
import Derived.KernelRfl
namespace Go.Proofs.YtiaebckdjklnoaaGreat
/- THE CELL 'sum', in the pinned program and in every row, IS THE sha256 OF THE DUMP (.gsa) THAT YtiaebckdjklnoaaGreatProg.lean LOADS. Nothing in Lean hashes anything: it is a label: what it is worth is what the hold of that sum in a sandbox is worth. -/
noncomputable def Tryz.pinned : Pinned := { name := "ytiaebckdjklnoaagreat", sum := "47888014df1ba8a36cfb92a4a4f2d50c25c4e7df04c5f39ef041723c8eec30f8", checked := Tryz.checked }
namespace Rows
def none {H : Type} : Left H := { results := [], args := [] }

/-- 'podiumlaw56.RiskSpec': WHATEVER THE INPUT: true; the input reads as it did. -/
def riskSpecSpec : ChangeSpec := { name := "riskSpec", fn := fun _ => fun
  | [d1, d2, d3, d4] => { results := [.lit (.bool true)], args := [d1, d2, d3, d4] }
  | _ => none }
def riskSpecRow : OpenClaim := { program := "ytiaebckdjklnoaagreat", sum := "47888014df1ba8a36cfb92a4a4f2d50c25c4e7df04c5f39ef041723c8eec30f8", func := "podium/podiumlaw56.RiskSpec", spec := "riskSpec", unfollowed := true, recurses := true, apart := false }
def RiskSpecSaid : Prop := riskSpecRow.holds Tryz.pinned (OpenSpec.ofChange riskSpecSpec)

/-- ITS FALSE NEIGHBOUR: 'it returns false'. Refute it at one input. -/
def riskSpecWrong : ChangeSpec := { name := "riskSpec", fn := fun _ => fun
  | [d1, d2, d3, d4] => { results := [.lit (.bool false)], args := [d1, d2, d3, d4] }
  | _ => none }
def RiskSpecWrongFalsely : Prop := riskSpecRow.holds Tryz.pinned (OpenSpec.ofChange riskSpecWrong)

/-- 'podiumlaw56.RiskEnough': WHATEVER THE INPUT: true; the input reads as it did. -/
def riskEnoughSpec : ChangeSpec := { name := "riskEnough", fn := fun _ => fun
  | [d1, d2, d3] => { results := [.lit (.bool true)], args := [d1, d2, d3] }
  | _ => none }
def riskEnoughRow : OpenClaim := { program := "ytiaebckdjklnoaagreat", sum := "47888014df1ba8a36cfb92a4a4f2d50c25c4e7df04c5f39ef041723c8eec30f8", func := "podium/podiumlaw56.RiskEnough", spec := "riskEnough", unfollowed := true, recurses := true, apart := false }
def RiskEnoughSaid : Prop := riskEnoughRow.holds Tryz.pinned (OpenSpec.ofChange riskEnoughSpec)

/-- ITS FALSE NEIGHBOUR: 'it returns false'. Refute it at one input. -/
def riskEnoughWrong : ChangeSpec := { name := "riskEnough", fn := fun _ => fun
  | [d1, d2, d3] => { results := [.lit (.bool false)], args := [d1, d2, d3] }
  | _ => none }
def RiskEnoughWrongFalsely : Prop := riskEnoughRow.holds Tryz.pinned (OpenSpec.ofChange riskEnoughWrong)

/- THE SECOND FORM. 'bulk': how many values and letters a reading holds, each counted each time it is reached (what is shared counts as often as it is met; a slice's spare places count too). A statement '..UptoSaid' is the law's where the arguments, and the package variables that the reading takes, are together of bulk at most 1048576: NARROWER than '..Said'. Prove '..Said' where nothing that the law and all that it calls make is longer than what came in: it says more and counts as full. Else prove '..UptoSaid'. A law counts once. -/
mutual
def uptoBulk {H : Type} : DataW H → Nat
  | .lit (.string bytes) => bytes.length + 1
  | .lit _ => 1
  | .nil => 1
  | .ptr d => uptoBulk d + 1
  | .slice elems spare => uptoBulkAll elems + uptoBulkAll spare + 1
  | .agg parts => uptoBulkAll parts + 1
  | .iface _ d => uptoBulk d + 1
  | .map entries => uptoBulkEntries entries + 1
  | .held _ => 1
def uptoBulkAll {H : Type} : List (DataW H) → Nat
  | [] => 0
  | d :: r => uptoBulk d + uptoBulkAll r
def uptoBulkEntries {H : Type} : List (Lit × DataW H) → Nat
  | [] => 0
  | x :: r => uptoBulkEntry x + uptoBulkEntries r
def uptoBulkEntry {H : Type} : Lit × DataW H → Nat
  | (.string bytes, d) => bytes.length + uptoBulk d + 1
  | (_, d) => uptoBulk d + 1
 end
def uptoSmall : (H : Type) → List (DataW H) → Bool := fun _ ds => decide (uptoBulkAll ds ≤ 1048576)
def OpenSpec.upto (s : _root_.Go.ChangeSpec) : _root_.Go.OpenSpec := { _root_.Go.OpenSpec.ofChange s with cond := some uptoSmall }

/-- 'podiumlaw56.RiskSpec', WHERE WHAT IT READS IS OF BULK AT MOST 1048576: true; the input reads as it did. -/
def riskSpecUptoRow : OpenClaim := { program := "ytiaebckdjklnoaagreat", sum := "47888014df1ba8a36cfb92a4a4f2d50c25c4e7df04c5f39ef041723c8eec30f8", func := "podium/podiumlaw56.RiskSpec", spec := "riskSpec", unfollowed := true, recurses := true, apart := false, narrowed := true }
def RiskSpecUptoSaid : Prop := riskSpecUptoRow.holds Tryz.pinned (OpenSpec.upto riskSpecSpec)

/-- 'podiumlaw56.RiskEnough', WHERE WHAT IT READS IS OF BULK AT MOST 1048576: true; the input reads as it did. -/
def riskEnoughUptoRow : OpenClaim := { program := "ytiaebckdjklnoaagreat", sum := "47888014df1ba8a36cfb92a4a4f2d50c25c4e7df04c5f39ef041723c8eec30f8", func := "podium/podiumlaw56.RiskEnough", spec := "riskEnough", unfollowed := true, recurses := true, apart := false, narrowed := true }
def RiskEnoughUptoSaid : Prop := riskEnoughUptoRow.holds Tryz.pinned (OpenSpec.upto riskEnoughSpec)

end Rows
end Go.Proofs.YtiaebckdjklnoaaGreat
