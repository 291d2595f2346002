/-
  No cell of these rows narrows 'for every input' (looked for: loops, veiled, ifaces, maps, wideKeys, modest, calm, conditions, laid).
  DERIVED. THE GIVEN ROWS OF THIS SEAT. 6 by the template 'for every input the law returns true; each argument reads behind the call as it read before'; 0 by the template 'total and deterministic' (their statements: YthkjdppifnmakaaTotals.lean).
  GIVEN WITH THE SEED: the statements are not yours to turn. If you find one false, say at which input.
  Laid BY PROGRAM, IN A SANDBOX (cutbox-rows.mjs): the forced cells as the released guide's own fill.sh prints them over the translation 494dfc588b9df1ac… (all of the seat's roots in one cut). By AI agents, Wed Nov 11 2026. No macro, syntax, notation, axiom, sorry.
-/
import Derived.Test.YthkjdppifnmakaaChecked
import GoSem.Claim
import GoSem.ClaimJoined
import GoSem.ClaimMapViews
import Derived.JoinedTies
import Derived.KernelRfl
namespace Go.Proofs.Ythkjdppifnmakaa
/- THE CELL 'sum', in the pinned program and in every row, IS THE sha256 OF THE DUMP (.gsa) THAT YthkjdppifnmakaaProg.lean LOADS. Nothing in Lean hashes anything: it is a label: what it is worth is what the hold of that sum in a sandbox is worth. -/
noncomputable def Try.pinned : Pinned := { name := "ythkjdppifnmakaa", sum := "494dfc588b9df1acea6a7d1c8a43e94838e7d1f06077cc6cfa74725901d0e207", checked := Try.checked }
namespace Rows
def none {H : Type} : Left H := { results := [], args := [] }

/-- 'podiumlaw51.AppealsSpec': WHATEVER THE INPUT: true; the input reads as it did. -/
def appealsSpecSpec : ChangeSpec := { name := "appealsSpec", fn := fun _ => fun
  | [d1, d2] => { results := [.lit (.bool true)], args := [d1, d2] }
  | _ => none }
def appealsSpecRow : OpenClaim := { program := "ythkjdppifnmakaa", sum := "494dfc588b9df1acea6a7d1c8a43e94838e7d1f06077cc6cfa74725901d0e207", func := "podium/podiumlaw51.AppealsSpec", spec := "appealsSpec", unfollowed := true, recurses := true, apart := false }
def AppealsSpecSaid : Prop := appealsSpecRow.holds Try.pinned (OpenSpec.ofChange appealsSpecSpec)

/-- ITS FALSE NEIGHBOUR: 'it returns false'. Refute it at one input. -/
def appealsSpecWrong : ChangeSpec := { name := "appealsSpec", fn := fun _ => fun
  | [d1, d2] => { results := [.lit (.bool false)], args := [d1, d2] }
  | _ => none }
def AppealsSpecWrongFalsely : Prop := appealsSpecRow.holds Try.pinned (OpenSpec.ofChange appealsSpecWrong)

/-- 'podiumlaw51.AppealsApplySpec': WHATEVER THE INPUT: true; the input reads as it did. -/
def appealsApplySpecSpec : ChangeSpec := { name := "appealsApplySpec", fn := fun _ => fun
  | [d1, d2, d3] => { results := [.lit (.bool true)], args := [d1, d2, d3] }
  | _ => none }
def appealsApplySpecRow : OpenClaim := { program := "ythkjdppifnmakaa", sum := "494dfc588b9df1acea6a7d1c8a43e94838e7d1f06077cc6cfa74725901d0e207", func := "podium/podiumlaw51.AppealsApplySpec", spec := "appealsApplySpec", unfollowed := true, recurses := true, apart := false }
def AppealsApplySpecSaid : Prop := appealsApplySpecRow.holds Try.pinned (OpenSpec.ofChange appealsApplySpecSpec)

/-- ITS FALSE NEIGHBOUR: 'it returns false'. Refute it at one input. -/
def appealsApplySpecWrong : ChangeSpec := { name := "appealsApplySpec", fn := fun _ => fun
  | [d1, d2, d3] => { results := [.lit (.bool false)], args := [d1, d2, d3] }
  | _ => none }
def AppealsApplySpecWrongFalsely : Prop := appealsApplySpecRow.holds Try.pinned (OpenSpec.ofChange appealsApplySpecWrong)

/-- 'podiumlaw51.AppealsAlone': WHATEVER THE INPUT: true; the input reads as it did. -/
def appealsAloneSpec : ChangeSpec := { name := "appealsAlone", fn := fun _ => fun
  | [d1, d2, d3] => { results := [.lit (.bool true)], args := [d1, d2, d3] }
  | _ => none }
def appealsAloneRow : OpenClaim := { program := "ythkjdppifnmakaa", sum := "494dfc588b9df1acea6a7d1c8a43e94838e7d1f06077cc6cfa74725901d0e207", func := "podium/podiumlaw51.AppealsAlone", spec := "appealsAlone", unfollowed := true, recurses := true, apart := false }
def AppealsAloneSaid : Prop := appealsAloneRow.holds Try.pinned (OpenSpec.ofChange appealsAloneSpec)

/-- ITS FALSE NEIGHBOUR: 'it returns false'. Refute it at one input. -/
def appealsAloneWrong : ChangeSpec := { name := "appealsAlone", fn := fun _ => fun
  | [d1, d2, d3] => { results := [.lit (.bool false)], args := [d1, d2, d3] }
  | _ => none }
def AppealsAloneWrongFalsely : Prop := appealsAloneRow.holds Try.pinned (OpenSpec.ofChange appealsAloneWrong)

/-- 'podiumlaw51.AppealsComposed': WHATEVER THE INPUT: true; the input reads as it did. -/
def appealsComposedSpec : ChangeSpec := { name := "appealsComposed", fn := fun _ => fun
  | [d1, d2, d3, d4] => { results := [.lit (.bool true)], args := [d1, d2, d3, d4] }
  | _ => none }
def appealsComposedRow : OpenClaim := { program := "ythkjdppifnmakaa", sum := "494dfc588b9df1acea6a7d1c8a43e94838e7d1f06077cc6cfa74725901d0e207", func := "podium/podiumlaw51.AppealsComposed", spec := "appealsComposed", unfollowed := true, recurses := true, apart := false }
def AppealsComposedSaid : Prop := appealsComposedRow.holds Try.pinned (OpenSpec.ofChange appealsComposedSpec)

/-- ITS FALSE NEIGHBOUR: 'it returns false'. Refute it at one input. -/
def appealsComposedWrong : ChangeSpec := { name := "appealsComposed", fn := fun _ => fun
  | [d1, d2, d3, d4] => { results := [.lit (.bool false)], args := [d1, d2, d3, d4] }
  | _ => none }
def AppealsComposedWrongFalsely : Prop := appealsComposedRow.holds Try.pinned (OpenSpec.ofChange appealsComposedWrong)

/-- 'podiumlaw51.AppealsOrder': WHATEVER THE INPUT: true; the input reads as it did. -/
def appealsOrderSpec : ChangeSpec := { name := "appealsOrder", fn := fun _ => fun
  | [d1, d2, d3, d4] => { results := [.lit (.bool true)], args := [d1, d2, d3, d4] }
  | _ => none }
def appealsOrderRow : OpenClaim := { program := "ythkjdppifnmakaa", sum := "494dfc588b9df1acea6a7d1c8a43e94838e7d1f06077cc6cfa74725901d0e207", func := "podium/podiumlaw51.AppealsOrder", spec := "appealsOrder", unfollowed := true, recurses := true, apart := false }
def AppealsOrderSaid : Prop := appealsOrderRow.holds Try.pinned (OpenSpec.ofChange appealsOrderSpec)

/-- ITS FALSE NEIGHBOUR: 'it returns false'. Refute it at one input. -/
def appealsOrderWrong : ChangeSpec := { name := "appealsOrder", fn := fun _ => fun
  | [d1, d2, d3, d4] => { results := [.lit (.bool false)], args := [d1, d2, d3, d4] }
  | _ => none }
def AppealsOrderWrongFalsely : Prop := appealsOrderRow.holds Try.pinned (OpenSpec.ofChange appealsOrderWrong)

/-- 'podiumlaw51.AppealsLast': WHATEVER THE INPUT: true; the input reads as it did. -/
def appealsLastSpec : ChangeSpec := { name := "appealsLast", fn := fun _ => fun
  | [d1, d2, d3] => { results := [.lit (.bool true)], args := [d1, d2, d3] }
  | _ => none }
def appealsLastRow : OpenClaim := { program := "ythkjdppifnmakaa", sum := "494dfc588b9df1acea6a7d1c8a43e94838e7d1f06077cc6cfa74725901d0e207", func := "podium/podiumlaw51.AppealsLast", spec := "appealsLast", unfollowed := true, recurses := true, apart := false }
def AppealsLastSaid : Prop := appealsLastRow.holds Try.pinned (OpenSpec.ofChange appealsLastSpec)

/-- ITS FALSE NEIGHBOUR: 'it returns false'. Refute it at one input. -/
def appealsLastWrong : ChangeSpec := { name := "appealsLast", fn := fun _ => fun
  | [d1, d2, d3] => { results := [.lit (.bool false)], args := [d1, d2, d3] }
  | _ => none }
def AppealsLastWrongFalsely : Prop := appealsLastRow.holds Try.pinned (OpenSpec.ofChange appealsLastWrong)

/- THE SECOND FORM. 'bulk': how many values and letters a reading holds, each counted each time it is reached (what is shared counts as often as it is met; a slice's spare places count too). A statement '..UptoSaid' is the law's where the arguments, and the package variables that the reading takes, are together of bulk at most 1048576: NARROWER than '..Said'. Prove '..Said' where nothing that the law and all that it calls make is longer than what came in: it says more and counts as full. Else prove '..UptoSaid'. A law counts once. -/
mutual
def uptoBulk {H : Type} : DataW H → Nat
  | .lit (.string bytes) => bytes.length + 1
  | .lit _ => 1
  | .nil => 1
  | .ptr d => uptoBulk d + 1
  | .slice elems spare => uptoBulkAll elems + uptoBulkAll spare + 1
  | .agg parts => uptoBulkAll parts + 1
  | .iface _ d => uptoBulk d + 1
  | .map entries => uptoBulkEntries entries + 1
  | .held _ => 1
def uptoBulkAll {H : Type} : List (DataW H) → Nat
  | [] => 0
  | d :: r => uptoBulk d + uptoBulkAll r
def uptoBulkEntries {H : Type} : List (Lit × DataW H) → Nat
  | [] => 0
  | x :: r => uptoBulkEntry x + uptoBulkEntries r
def uptoBulkEntry {H : Type} : Lit × DataW H → Nat
  | (.string bytes, d) => bytes.length + uptoBulk d + 1
  | (_, d) => uptoBulk d + 1
 end
def uptoSmall : (H : Type) → List (DataW H) → Bool := fun _ ds => decide (uptoBulkAll ds ≤ 1048576)
def OpenSpec.upto (s : _root_.Go.ChangeSpec) : _root_.Go.OpenSpec := { _root_.Go.OpenSpec.ofChange s with cond := some uptoSmall }

/-- 'podiumlaw51.AppealsSpec', WHERE WHAT IT READS IS OF BULK AT MOST 1048576: true; the input reads as it did. -/
def appealsSpecUptoRow : OpenClaim := { program := "ythkjdppifnmakaa", sum := "494dfc588b9df1acea6a7d1c8a43e94838e7d1f06077cc6cfa74725901d0e207", func := "podium/podiumlaw51.AppealsSpec", spec := "appealsSpec", unfollowed := true, recurses := true, apart := false, narrowed := true }
def AppealsSpecUptoSaid : Prop := appealsSpecUptoRow.holds Try.pinned (OpenSpec.upto appealsSpecSpec)

/-- 'podiumlaw51.AppealsApplySpec', WHERE WHAT IT READS IS OF BULK AT MOST 1048576: true; the input reads as it did. -/
def appealsApplySpecUptoRow : OpenClaim := { program := "ythkjdppifnmakaa", sum := "494dfc588b9df1acea6a7d1c8a43e94838e7d1f06077cc6cfa74725901d0e207", func := "podium/podiumlaw51.AppealsApplySpec", spec := "appealsApplySpec", unfollowed := true, recurses := true, apart := false, narrowed := true }
def AppealsApplySpecUptoSaid : Prop := appealsApplySpecUptoRow.holds Try.pinned (OpenSpec.upto appealsApplySpecSpec)

/-- 'podiumlaw51.AppealsAlone', WHERE WHAT IT READS IS OF BULK AT MOST 1048576: true; the input reads as it did. -/
def appealsAloneUptoRow : OpenClaim := { program := "ythkjdppifnmakaa", sum := "494dfc588b9df1acea6a7d1c8a43e94838e7d1f06077cc6cfa74725901d0e207", func := "podium/podiumlaw51.AppealsAlone", spec := "appealsAlone", unfollowed := true, recurses := true, apart := false, narrowed := true }
def AppealsAloneUptoSaid : Prop := appealsAloneUptoRow.holds Try.pinned (OpenSpec.upto appealsAloneSpec)

/-- 'podiumlaw51.AppealsComposed', WHERE WHAT IT READS IS OF BULK AT MOST 1048576: true; the input reads as it did. -/
def appealsComposedUptoRow : OpenClaim := { program := "ythkjdppifnmakaa", sum := "494dfc588b9df1acea6a7d1c8a43e94838e7d1f06077cc6cfa74725901d0e207", func := "podium/podiumlaw51.AppealsComposed", spec := "appealsComposed", unfollowed := true, recurses := true, apart := false, narrowed := true }
def AppealsComposedUptoSaid : Prop := appealsComposedUptoRow.holds Try.pinned (OpenSpec.upto appealsComposedSpec)

/-- 'podiumlaw51.AppealsOrder', WHERE WHAT IT READS IS OF BULK AT MOST 1048576: true; the input reads as it did. -/
def appealsOrderUptoRow : OpenClaim := { program := "ythkjdppifnmakaa", sum := "494dfc588b9df1acea6a7d1c8a43e94838e7d1f06077cc6cfa74725901d0e207", func := "podium/podiumlaw51.AppealsOrder", spec := "appealsOrder", unfollowed := true, recurses := true, apart := false, narrowed := true }
def AppealsOrderUptoSaid : Prop := appealsOrderUptoRow.holds Try.pinned (OpenSpec.upto appealsOrderSpec)

/-- 'podiumlaw51.AppealsLast', WHERE WHAT IT READS IS OF BULK AT MOST 1048576: true; the input reads as it did. -/
def appealsLastUptoRow : OpenClaim := { program := "ythkjdppifnmakaa", sum := "494dfc588b9df1acea6a7d1c8a43e94838e7d1f06077cc6cfa74725901d0e207", func := "podium/podiumlaw51.AppealsLast", spec := "appealsLast", unfollowed := true, recurses := true, apart := false, narrowed := true }
def AppealsLastUptoSaid : Prop := appealsLastUptoRow.holds Try.pinned (OpenSpec.upto appealsLastSpec)

end Rows
end Go.Proofs.Ythkjdppifnmakaa
