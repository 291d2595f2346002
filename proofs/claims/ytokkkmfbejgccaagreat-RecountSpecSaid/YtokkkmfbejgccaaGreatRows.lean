/-
  No cell of these rows narrows 'for every input' (looked for: loops, veiled, ifaces, maps, wideKeys, modest, calm, conditions, laid).
  DERIVED. THE GIVEN ROWS OF THIS SEAT. 2 by the template 'for every input the law returns true; each argument reads behind the call as it read before'; 0 by the template 'total and deterministic' (their statements: YtokkkmfbejgccaaGreatTotals.lean).
  GIVEN WITH THE SEED: the statements are not yours to turn. If you find one false, say at which input.
  Laid BY PROGRAM, IN A SANDBOX (cutbox-rows.mjs): the forced cells as the released guide's own fill.sh prints them over the translation 8512cfb3bbd3f99d… (all of the seat's roots in one cut). By AI agents, Wed Nov 11 2026. No macro, syntax, notation, axiom, sorry.
-/
import Derived.Test.YtokkkmfbejgccaaGreatChecked
import GoSem.Claim
import GoSem.ClaimJoined
import GoSem.ClaimMapViews
import Derived.JoinedTies
import Derived.KernelRfl
namespace Go.Proofs.YtokkkmfbejgccaaGreat
/- THE CELL 'sum', in the pinned program and in every row, IS THE sha256 OF THE DUMP (.gsa) THAT YtokkkmfbejgccaaGreatProg.lean LOADS. Nothing in Lean hashes anything: it is a label: what it is worth is what the hold of that sum in a sandbox is worth. -/
noncomputable def Tryz.pinned : Pinned := { name := "ytokkkmfbejgccaagreat", sum := "8512cfb3bbd3f99d0248255510808f823cf14f5d260967e9102ea2264020fa61", checked := Tryz.checked }
namespace Rows
def none {H : Type} : Left H := { results := [], args := [] }

/-- 'podiumlaw57.RecountSpec': WHATEVER THE INPUT: true; the input reads as it did. -/
def recountSpecSpec : ChangeSpec := { name := "recountSpec", fn := fun _ => fun
  | [d1, d2, d3, d4, d5] => { results := [.lit (.bool true)], args := [d1, d2, d3, d4, d5] }
  | _ => none }
def recountSpecRow : OpenClaim := { program := "ytokkkmfbejgccaagreat", sum := "8512cfb3bbd3f99d0248255510808f823cf14f5d260967e9102ea2264020fa61", func := "podium/podiumlaw57.RecountSpec", spec := "recountSpec", unfollowed := true, recurses := true, apart := false }
def RecountSpecSaid : Prop := recountSpecRow.holds Tryz.pinned (OpenSpec.ofChange recountSpecSpec)

/-- ITS FALSE NEIGHBOUR: 'it returns false'. Refute it at one input. -/
def recountSpecWrong : ChangeSpec := { name := "recountSpec", fn := fun _ => fun
  | [d1, d2, d3, d4, d5] => { results := [.lit (.bool false)], args := [d1, d2, d3, d4, d5] }
  | _ => none }
def RecountSpecWrongFalsely : Prop := recountSpecRow.holds Tryz.pinned (OpenSpec.ofChange recountSpecWrong)

/-- 'podiumlaw57.RecountRunSpec': WHATEVER THE INPUT: true; the input reads as it did. -/
def recountRunSpecSpec : ChangeSpec := { name := "recountRunSpec", fn := fun _ => fun
  | [d1, d2, d3] => { results := [.lit (.bool true)], args := [d1, d2, d3] }
  | _ => none }
def recountRunSpecRow : OpenClaim := { program := "ytokkkmfbejgccaagreat", sum := "8512cfb3bbd3f99d0248255510808f823cf14f5d260967e9102ea2264020fa61", func := "podium/podiumlaw57.RecountRunSpec", spec := "recountRunSpec", unfollowed := true, recurses := true, apart := false }
def RecountRunSpecSaid : Prop := recountRunSpecRow.holds Tryz.pinned (OpenSpec.ofChange recountRunSpecSpec)

/-- ITS FALSE NEIGHBOUR: 'it returns false'. Refute it at one input. -/
def recountRunSpecWrong : ChangeSpec := { name := "recountRunSpec", fn := fun _ => fun
  | [d1, d2, d3] => { results := [.lit (.bool false)], args := [d1, d2, d3] }
  | _ => none }
def RecountRunSpecWrongFalsely : Prop := recountRunSpecRow.holds Tryz.pinned (OpenSpec.ofChange recountRunSpecWrong)

/- THE SECOND FORM. 'bulk': how many values and letters a reading holds, each counted each time it is reached (what is shared counts as often as it is met; a slice's spare places count too). A statement '..UptoSaid' is the law's where the arguments, and the package variables that the reading takes, are together of bulk at most 1048576: NARROWER than '..Said'. Prove '..Said' where nothing that the law and all that it calls make is longer than what came in: it says more and counts as full. Else prove '..UptoSaid'. A law counts once. -/
mutual
def uptoBulk {H : Type} : DataW H → Nat
  | .lit (.string bytes) => bytes.length + 1
  | .lit _ => 1
  | .nil => 1
  | .ptr d => uptoBulk d + 1
  | .slice elems spare => uptoBulkAll elems + uptoBulkAll spare + 1
  | .agg parts => uptoBulkAll parts + 1
  | .iface _ d => uptoBulk d + 1
  | .map entries => uptoBulkEntries entries + 1
  | .held _ => 1
def uptoBulkAll {H : Type} : List (DataW H) → Nat
  | [] => 0
  | d :: r => uptoBulk d + uptoBulkAll r
def uptoBulkEntries {H : Type} : List (Lit × DataW H) → Nat
  | [] => 0
  | x :: r => uptoBulkEntry x + uptoBulkEntries r
def uptoBulkEntry {H : Type} : Lit × DataW H → Nat
  | (.string bytes, d) => bytes.length + uptoBulk d + 1
  | (_, d) => uptoBulk d + 1
 end
def uptoSmall : (H : Type) → List (DataW H) → Bool := fun _ ds => decide (uptoBulkAll ds ≤ 1048576)
def OpenSpec.upto (s : _root_.Go.ChangeSpec) : _root_.Go.OpenSpec := { _root_.Go.OpenSpec.ofChange s with cond := some uptoSmall }

/-- 'podiumlaw57.RecountSpec', WHERE WHAT IT READS IS OF BULK AT MOST 1048576: true; the input reads as it did. -/
def recountSpecUptoRow : OpenClaim := { program := "ytokkkmfbejgccaagreat", sum := "8512cfb3bbd3f99d0248255510808f823cf14f5d260967e9102ea2264020fa61", func := "podium/podiumlaw57.RecountSpec", spec := "recountSpec", unfollowed := true, recurses := true, apart := false, narrowed := true }
def RecountSpecUptoSaid : Prop := recountSpecUptoRow.holds Tryz.pinned (OpenSpec.upto recountSpecSpec)

/-- 'podiumlaw57.RecountRunSpec', WHERE WHAT IT READS IS OF BULK AT MOST 1048576: true; the input reads as it did. -/
def recountRunSpecUptoRow : OpenClaim := { program := "ytokkkmfbejgccaagreat", sum := "8512cfb3bbd3f99d0248255510808f823cf14f5d260967e9102ea2264020fa61", func := "podium/podiumlaw57.RecountRunSpec", spec := "recountRunSpec", unfollowed := true, recurses := true, apart := false, narrowed := true }
def RecountRunSpecUptoSaid : Prop := recountRunSpecUptoRow.holds Tryz.pinned (OpenSpec.upto recountRunSpecSpec)

end Rows
end Go.Proofs.YtokkkmfbejgccaaGreat
