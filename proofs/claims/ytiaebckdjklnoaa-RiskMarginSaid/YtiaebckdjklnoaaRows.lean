/-
  No cell of these rows narrows 'for every input' (looked for: loops, veiled, ifaces, maps, wideKeys, modest, calm, conditions, laid).
  DERIVED. THE GIVEN ROWS OF THIS SEAT. 4 by the template 'for every input the law returns true; each argument reads behind the call as it read before'; 0 by the template 'total and deterministic' (their statements: YtiaebckdjklnoaaTotals.lean).
  GIVEN WITH THE SEED: the statements are not yours to turn. If you find one false, say at which input.
  Laid BY PROGRAM, IN A SANDBOX (cutbox-rows.mjs): the forced cells as the released guide's own fill.sh prints them over the translation 25d40759c1e97845… (all of the seat's roots in one cut). By AI agents, Wed Nov 11 2026. No macro, syntax, notation, axiom, sorry.
-/
import Derived.Test.YtiaebckdjklnoaaChecked
import GoSem.Claim
import GoSem.ClaimJoined
import GoSem.ClaimMapViews
import Derived.JoinedTies
import Derived.KernelRfl
namespace Go.Proofs.Ytiaebckdjklnoaa
/- THE CELL 'sum', in the pinned program and in every row, IS THE sha256 OF THE DUMP (.gsa) THAT YtiaebckdjklnoaaProg.lean LOADS. Nothing in Lean hashes anything: it is a label: what it is worth is what the hold of that sum in a sandbox is worth. -/
noncomputable def Try.pinned : Pinned := { name := "ytiaebckdjklnoaa", sum := "25d40759c1e97845c97f2e178ecfe05473d57a50622790b0d7a210bb5c51de17", checked := Try.checked }
namespace Rows
def none {H : Type} : Left H := { results := [], args := [] }

/-- 'podiumlaw56.RiskMarginSpec': WHATEVER THE INPUT: true; the input reads as it did. -/
def riskMarginSpecSpec : ChangeSpec := { name := "riskMarginSpec", fn := fun _ => fun
  | [d1, d2] => { results := [.lit (.bool true)], args := [d1, d2] }
  | _ => none }
def riskMarginSpecRow : OpenClaim := { program := "ytiaebckdjklnoaa", sum := "25d40759c1e97845c97f2e178ecfe05473d57a50622790b0d7a210bb5c51de17", func := "podium/podiumlaw56.RiskMarginSpec", spec := "riskMarginSpec", unfollowed := true, recurses := true, apart := false }
def RiskMarginSpecSaid : Prop := riskMarginSpecRow.holds Try.pinned (OpenSpec.ofChange riskMarginSpecSpec)

/-- ITS FALSE NEIGHBOUR: 'it returns false'. Refute it at one input. -/
def riskMarginSpecWrong : ChangeSpec := { name := "riskMarginSpec", fn := fun _ => fun
  | [d1, d2] => { results := [.lit (.bool false)], args := [d1, d2] }
  | _ => none }
def RiskMarginSpecWrongFalsely : Prop := riskMarginSpecRow.holds Try.pinned (OpenSpec.ofChange riskMarginSpecWrong)

/-- 'podiumlaw56.RiskCounted': WHATEVER THE INPUT: true; the input reads as it did. -/
def riskCountedSpec : ChangeSpec := { name := "riskCounted", fn := fun _ => fun
  | [d1, d2, d3] => { results := [.lit (.bool true)], args := [d1, d2, d3] }
  | _ => none }
def riskCountedRow : OpenClaim := { program := "ytiaebckdjklnoaa", sum := "25d40759c1e97845c97f2e178ecfe05473d57a50622790b0d7a210bb5c51de17", func := "podium/podiumlaw56.RiskCounted", spec := "riskCounted", unfollowed := true, recurses := true, apart := false }
def RiskCountedSaid : Prop := riskCountedRow.holds Try.pinned (OpenSpec.ofChange riskCountedSpec)

/-- ITS FALSE NEIGHBOUR: 'it returns false'. Refute it at one input. -/
def riskCountedWrong : ChangeSpec := { name := "riskCounted", fn := fun _ => fun
  | [d1, d2, d3] => { results := [.lit (.bool false)], args := [d1, d2, d3] }
  | _ => none }
def RiskCountedWrongFalsely : Prop := riskCountedRow.holds Try.pinned (OpenSpec.ofChange riskCountedWrong)

/-- 'podiumlaw56.RiskMonotone': WHATEVER THE INPUT: true; the input reads as it did. -/
def riskMonotoneSpec : ChangeSpec := { name := "riskMonotone", fn := fun _ => fun
  | [d1, d2, d3] => { results := [.lit (.bool true)], args := [d1, d2, d3] }
  | _ => none }
def riskMonotoneRow : OpenClaim := { program := "ytiaebckdjklnoaa", sum := "25d40759c1e97845c97f2e178ecfe05473d57a50622790b0d7a210bb5c51de17", func := "podium/podiumlaw56.RiskMonotone", spec := "riskMonotone", unfollowed := true, recurses := true, apart := false }
def RiskMonotoneSaid : Prop := riskMonotoneRow.holds Try.pinned (OpenSpec.ofChange riskMonotoneSpec)

/-- ITS FALSE NEIGHBOUR: 'it returns false'. Refute it at one input. -/
def riskMonotoneWrong : ChangeSpec := { name := "riskMonotone", fn := fun _ => fun
  | [d1, d2, d3] => { results := [.lit (.bool false)], args := [d1, d2, d3] }
  | _ => none }
def RiskMonotoneWrongFalsely : Prop := riskMonotoneRow.holds Try.pinned (OpenSpec.ofChange riskMonotoneWrong)

/-- 'podiumlaw56.RiskMargin': WHATEVER THE INPUT: true; the input reads as it did. -/
def riskMarginSpec : ChangeSpec := { name := "riskMargin", fn := fun _ => fun
  | [d1, d2] => { results := [.lit (.bool true)], args := [d1, d2] }
  | _ => none }
def riskMarginRow : OpenClaim := { program := "ytiaebckdjklnoaa", sum := "25d40759c1e97845c97f2e178ecfe05473d57a50622790b0d7a210bb5c51de17", func := "podium/podiumlaw56.RiskMargin", spec := "riskMargin", unfollowed := true, recurses := true, apart := false }
def RiskMarginSaid : Prop := riskMarginRow.holds Try.pinned (OpenSpec.ofChange riskMarginSpec)

/-- ITS FALSE NEIGHBOUR: 'it returns false'. Refute it at one input. -/
def riskMarginWrong : ChangeSpec := { name := "riskMargin", fn := fun _ => fun
  | [d1, d2] => { results := [.lit (.bool false)], args := [d1, d2] }
  | _ => none }
def RiskMarginWrongFalsely : Prop := riskMarginRow.holds Try.pinned (OpenSpec.ofChange riskMarginWrong)

/- THE SECOND FORM. 'bulk': how many values and letters a reading holds, each counted each time it is reached (what is shared counts as often as it is met; a slice's spare places count too). A statement '..UptoSaid' is the law's where the arguments, and the package variables that the reading takes, are together of bulk at most 1048576: NARROWER than '..Said'. Prove '..Said' where nothing that the law and all that it calls make is longer than what came in: it says more and counts as full. Else prove '..UptoSaid'. A law counts once. -/
mutual
def uptoBulk {H : Type} : DataW H → Nat
  | .lit (.string bytes) => bytes.length + 1
  | .lit _ => 1
  | .nil => 1
  | .ptr d => uptoBulk d + 1
  | .slice elems spare => uptoBulkAll elems + uptoBulkAll spare + 1
  | .agg parts => uptoBulkAll parts + 1
  | .iface _ d => uptoBulk d + 1
  | .map entries => uptoBulkEntries entries + 1
  | .held _ => 1
def uptoBulkAll {H : Type} : List (DataW H) → Nat
  | [] => 0
  | d :: r => uptoBulk d + uptoBulkAll r
def uptoBulkEntries {H : Type} : List (Lit × DataW H) → Nat
  | [] => 0
  | x :: r => uptoBulkEntry x + uptoBulkEntries r
def uptoBulkEntry {H : Type} : Lit × DataW H → Nat
  | (.string bytes, d) => bytes.length + uptoBulk d + 1
  | (_, d) => uptoBulk d + 1
 end
def uptoSmall : (H : Type) → List (DataW H) → Bool := fun _ ds => decide (uptoBulkAll ds ≤ 1048576)
def OpenSpec.upto (s : _root_.Go.ChangeSpec) : _root_.Go.OpenSpec := { _root_.Go.OpenSpec.ofChange s with cond := some uptoSmall }

/-- 'podiumlaw56.RiskMarginSpec', WHERE WHAT IT READS IS OF BULK AT MOST 1048576: true; the input reads as it did. -/
def riskMarginSpecUptoRow : OpenClaim := { program := "ytiaebckdjklnoaa", sum := "25d40759c1e97845c97f2e178ecfe05473d57a50622790b0d7a210bb5c51de17", func := "podium/podiumlaw56.RiskMarginSpec", spec := "riskMarginSpec", unfollowed := true, recurses := true, apart := false, narrowed := true }
def RiskMarginSpecUptoSaid : Prop := riskMarginSpecUptoRow.holds Try.pinned (OpenSpec.upto riskMarginSpecSpec)

/-- 'podiumlaw56.RiskCounted', WHERE WHAT IT READS IS OF BULK AT MOST 1048576: true; the input reads as it did. -/
def riskCountedUptoRow : OpenClaim := { program := "ytiaebckdjklnoaa", sum := "25d40759c1e97845c97f2e178ecfe05473d57a50622790b0d7a210bb5c51de17", func := "podium/podiumlaw56.RiskCounted", spec := "riskCounted", unfollowed := true, recurses := true, apart := false, narrowed := true }
def RiskCountedUptoSaid : Prop := riskCountedUptoRow.holds Try.pinned (OpenSpec.upto riskCountedSpec)

/-- 'podiumlaw56.RiskMonotone', WHERE WHAT IT READS IS OF BULK AT MOST 1048576: true; the input reads as it did. -/
def riskMonotoneUptoRow : OpenClaim := { program := "ytiaebckdjklnoaa", sum := "25d40759c1e97845c97f2e178ecfe05473d57a50622790b0d7a210bb5c51de17", func := "podium/podiumlaw56.RiskMonotone", spec := "riskMonotone", unfollowed := true, recurses := true, apart := false, narrowed := true }
def RiskMonotoneUptoSaid : Prop := riskMonotoneUptoRow.holds Try.pinned (OpenSpec.upto riskMonotoneSpec)

/-- 'podiumlaw56.RiskMargin', WHERE WHAT IT READS IS OF BULK AT MOST 1048576: true; the input reads as it did. -/
def riskMarginUptoRow : OpenClaim := { program := "ytiaebckdjklnoaa", sum := "25d40759c1e97845c97f2e178ecfe05473d57a50622790b0d7a210bb5c51de17", func := "podium/podiumlaw56.RiskMargin", spec := "riskMargin", unfollowed := true, recurses := true, apart := false, narrowed := true }
def RiskMarginUptoSaid : Prop := riskMarginUptoRow.holds Try.pinned (OpenSpec.upto riskMarginSpec)

end Rows
end Go.Proofs.Ytiaebckdjklnoaa
