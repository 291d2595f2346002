/-
  NARROWER THAN 'FOR EVERY INPUT', by the rows' own cells (each row's printed sentence says how): OpeningSpec: laid · OpeningCardsSpec: laid · OpeningKept: laid · OpeningOrder: laid · OpeningClosed: laid · OpeningFew: laid · OpeningOpens: laid.
  DERIVED. THE GIVEN ROWS OF THIS SEAT. 7 by the template 'for every input the law returns true; each argument reads behind the call as it read before'; 0 by the template 'total and deterministic' (their statements: YtnooplpbpfiapaaGreatDoorTotals.lean).
  GIVEN WITH THE SEED: the statements are not yours to turn. If you find one false, say at which input.
  Laid BY PROGRAM, IN A SANDBOX (cutbox-rows.mjs): the forced cells as the released guide's own fill.sh prints them over the translation 1ec40f83f092a7c0… (all of the seat's roots in one cut). By AI agents, Wed Nov 11 2026. No macro, syntax, notation, axiom, sorry.
-/
import Derived.Test.YtnooplpbpfiapaaGreatDoorChecked
import GoSem.Claim
import GoSem.ClaimJoined
import GoSem.ClaimMapViews
import Derived.JoinedTies
import Derived.KernelRfl
namespace Go.Proofs.YtnooplpbpfiapaaGreatDoor
/- THE CELL 'sum', in the pinned program and in every row, IS THE sha256 OF THE DUMP (.gsa) THAT YtnooplpbpfiapaaGreatDoorProg.lean LOADS. Nothing in Lean hashes anything: it is a label: what it is worth is what the hold of that sum in a sandbox is worth. -/
noncomputable def Tryz.pinned : Pinned := { name := "ytnooplpbpfiapaagreatdoor", sum := "1ec40f83f092a7c06663f75617ac466df7a139b4219e75b4ce0e2cfc24f9c827", checked := Tryz.checked }
namespace Rows
def none {H : Type} : Left H := { results := [], args := [] }

/- WHAT THE LISTED PACKAGE-LEVEL VARIABLES READ AS WHEN THE CALL BEGINS. Each datum BY PROGRAM (the guide's laid-datum.mjs) off the statement by which the dump's own 'gosem.cut.vars' lays the variable. In a bare row this is a premise. The card (YtnooplpbpfiapaaGreatDoorCards.lean) ties it to the program's text. -/
def laid_podium_digest_start {H : Type} : DataW H := .agg [.lit (.int .u32 1779033703), .lit (.int .u32 3144134277), .lit (.int .u32 1013904242), .lit (.int .u32 2773480762), .lit (.int .u32 1359893119), .lit (.int .u32 2600822924), .lit (.int .u32 528734635), .lit (.int .u32 1541459225)]
def laid_podium_digest_numbers {H : Type} : DataW H := .agg [.lit (.int .u32 1116352408), .lit (.int .u32 1899447441), .lit (.int .u32 3049323471), .lit (.int .u32 3921009573), .lit (.int .u32 961987163), .lit (.int .u32 1508970993), .lit (.int .u32 2453635748), .lit (.int .u32 2870763221), .lit (.int .u32 3624381080), .lit (.int .u32 310598401), .lit (.int .u32 607225278), .lit (.int .u32 1426881987), .lit (.int .u32 1925078388), .lit (.int .u32 2162078206), .lit (.int .u32 2614888103), .lit (.int .u32 3248222580), .lit (.int .u32 3835390401), .lit (.int .u32 4022224774), .lit (.int .u32 264347078), .lit (.int .u32 604807628), .lit (.int .u32 770255983), .lit (.int .u32 1249150122), .lit (.int .u32 1555081692), .lit (.int .u32 1996064986), .lit (.int .u32 2554220882), .lit (.int .u32 2821834349), .lit (.int .u32 2952996808), .lit (.int .u32 3210313671), .lit (.int .u32 3336571891), .lit (.int .u32 3584528711), .lit (.int .u32 113926993), .lit (.int .u32 338241895), .lit (.int .u32 666307205), .lit (.int .u32 773529912), .lit (.int .u32 1294757372), .lit (.int .u32 1396182291), .lit (.int .u32 1695183700), .lit (.int .u32 1986661051), .lit (.int .u32 2177026350), .lit (.int .u32 2456956037), .lit (.int .u32 2730485921), .lit (.int .u32 2820302411), .lit (.int .u32 3259730800), .lit (.int .u32 3345764771), .lit (.int .u32 3516065817), .lit (.int .u32 3600352804), .lit (.int .u32 4094571909), .lit (.int .u32 275423344), .lit (.int .u32 430227734), .lit (.int .u32 506948616), .lit (.int .u32 659060556), .lit (.int .u32 883997877), .lit (.int .u32 958139571), .lit (.int .u32 1322822218), .lit (.int .u32 1537002063), .lit (.int .u32 1747873779), .lit (.int .u32 1955562222), .lit (.int .u32 2024104815), .lit (.int .u32 2227730452), .lit (.int .u32 2361852424), .lit (.int .u32 2428436474), .lit (.int .u32 2756734187), .lit (.int .u32 3204031479), .lit (.int .u32 3329325298)]

/-- 'podiumlaw36.OpeningSpec': WHATEVER THE INPUT: true; the input reads as it did. -/
def openingSpecSpec : ChangeSpec := { name := "openingSpec", fn := fun _ => fun
  | [d1, d2] => { results := [.lit (.bool true)], args := [d1, d2] }
  | _ => none }
def openingSpecRow : OpenClaim := { program := "ytnooplpbpfiapaagreatdoor", sum := "1ec40f83f092a7c06663f75617ac466df7a139b4219e75b4ce0e2cfc24f9c827", func := "podium/podiumlaw36.OpeningSpec", spec := "openingSpec", inPlace := ["slices.overlaps[podium/api.Sealed]", "slices.overlaps[podium/api.KeyShare]", "slices.overlaps[podium/api.Shown]"], unfollowed := true, recurses := true, named := ["podium/digest.start", "podium/digest.numbers"], apart := false, laid := [("podium/digest.start", laid_podium_digest_start), ("podium/digest.numbers", laid_podium_digest_numbers)] }
def OpeningSpecSaid : Prop := openingSpecRow.holds Tryz.pinned (OpenSpec.ofChange openingSpecSpec)

/-- ITS FALSE NEIGHBOUR: 'it returns false'. Refute it at one input. -/
def openingSpecWrong : ChangeSpec := { name := "openingSpec", fn := fun _ => fun
  | [d1, d2] => { results := [.lit (.bool false)], args := [d1, d2] }
  | _ => none }
def OpeningSpecWrongFalsely : Prop := openingSpecRow.holds Tryz.pinned (OpenSpec.ofChange openingSpecWrong)

/-- 'podiumlaw36.OpeningCardsSpec': WHATEVER THE INPUT: true; the input reads as it did. -/
def openingCardsSpecSpec : ChangeSpec := { name := "openingCardsSpec", fn := fun _ => fun
  | [d] => { results := [.lit (.bool true)], args := [d] }
  | _ => none }
def openingCardsSpecRow : OpenClaim := { program := "ytnooplpbpfiapaagreatdoor", sum := "1ec40f83f092a7c06663f75617ac466df7a139b4219e75b4ce0e2cfc24f9c827", func := "podium/podiumlaw36.OpeningCardsSpec", spec := "openingCardsSpec", inPlace := ["slices.overlaps[podium/api.Sealed]", "slices.overlaps[podium/api.KeyShare]", "slices.overlaps[podium/api.Shown]"], unfollowed := true, recurses := true, named := ["podium/digest.start", "podium/digest.numbers"], apart := false, laid := [("podium/digest.start", laid_podium_digest_start), ("podium/digest.numbers", laid_podium_digest_numbers)] }
def OpeningCardsSpecSaid : Prop := openingCardsSpecRow.holds Tryz.pinned (OpenSpec.ofChange openingCardsSpecSpec)

/-- ITS FALSE NEIGHBOUR: 'it returns false'. Refute it at one input. -/
def openingCardsSpecWrong : ChangeSpec := { name := "openingCardsSpec", fn := fun _ => fun
  | [d] => { results := [.lit (.bool false)], args := [d] }
  | _ => none }
def OpeningCardsSpecWrongFalsely : Prop := openingCardsSpecRow.holds Tryz.pinned (OpenSpec.ofChange openingCardsSpecWrong)

/-- 'podiumlaw36.OpeningKept': WHATEVER THE INPUT: true; the input reads as it did. -/
def openingKeptSpec : ChangeSpec := { name := "openingKept", fn := fun _ => fun
  | [d1, d2] => { results := [.lit (.bool true)], args := [d1, d2] }
  | _ => none }
def openingKeptRow : OpenClaim := { program := "ytnooplpbpfiapaagreatdoor", sum := "1ec40f83f092a7c06663f75617ac466df7a139b4219e75b4ce0e2cfc24f9c827", func := "podium/podiumlaw36.OpeningKept", spec := "openingKept", inPlace := ["slices.overlaps[podium/api.Sealed]", "slices.overlaps[podium/api.KeyShare]", "slices.overlaps[podium/api.Shown]"], unfollowed := true, recurses := true, named := ["podium/digest.start", "podium/digest.numbers"], apart := false, laid := [("podium/digest.start", laid_podium_digest_start), ("podium/digest.numbers", laid_podium_digest_numbers)] }
def OpeningKeptSaid : Prop := openingKeptRow.holds Tryz.pinned (OpenSpec.ofChange openingKeptSpec)

/-- ITS FALSE NEIGHBOUR: 'it returns false'. Refute it at one input. -/
def openingKeptWrong : ChangeSpec := { name := "openingKept", fn := fun _ => fun
  | [d1, d2] => { results := [.lit (.bool false)], args := [d1, d2] }
  | _ => none }
def OpeningKeptWrongFalsely : Prop := openingKeptRow.holds Tryz.pinned (OpenSpec.ofChange openingKeptWrong)

/-- 'podiumlaw36.OpeningOrder': WHATEVER THE INPUT: true; the input reads as it did. -/
def openingOrderSpec : ChangeSpec := { name := "openingOrder", fn := fun _ => fun
  | [d1, d2, d3] => { results := [.lit (.bool true)], args := [d1, d2, d3] }
  | _ => none }
def openingOrderRow : OpenClaim := { program := "ytnooplpbpfiapaagreatdoor", sum := "1ec40f83f092a7c06663f75617ac466df7a139b4219e75b4ce0e2cfc24f9c827", func := "podium/podiumlaw36.OpeningOrder", spec := "openingOrder", inPlace := ["slices.overlaps[podium/api.Sealed]", "slices.overlaps[podium/api.KeyShare]", "slices.overlaps[podium/api.Shown]"], unfollowed := true, recurses := true, named := ["podium/digest.start", "podium/digest.numbers"], apart := false, laid := [("podium/digest.start", laid_podium_digest_start), ("podium/digest.numbers", laid_podium_digest_numbers)] }
def OpeningOrderSaid : Prop := openingOrderRow.holds Tryz.pinned (OpenSpec.ofChange openingOrderSpec)

/-- ITS FALSE NEIGHBOUR: 'it returns false'. Refute it at one input. -/
def openingOrderWrong : ChangeSpec := { name := "openingOrder", fn := fun _ => fun
  | [d1, d2, d3] => { results := [.lit (.bool false)], args := [d1, d2, d3] }
  | _ => none }
def OpeningOrderWrongFalsely : Prop := openingOrderRow.holds Tryz.pinned (OpenSpec.ofChange openingOrderWrong)

/-- 'podiumlaw36.OpeningClosed': WHATEVER THE INPUT: true; the input reads as it did. -/
def openingClosedSpec : ChangeSpec := { name := "openingClosed", fn := fun _ => fun
  | [d1, d2, d3] => { results := [.lit (.bool true)], args := [d1, d2, d3] }
  | _ => none }
def openingClosedRow : OpenClaim := { program := "ytnooplpbpfiapaagreatdoor", sum := "1ec40f83f092a7c06663f75617ac466df7a139b4219e75b4ce0e2cfc24f9c827", func := "podium/podiumlaw36.OpeningClosed", spec := "openingClosed", inPlace := ["slices.overlaps[podium/api.Sealed]", "slices.overlaps[podium/api.KeyShare]", "slices.overlaps[podium/api.Shown]"], unfollowed := true, recurses := true, named := ["podium/digest.start", "podium/digest.numbers"], apart := false, laid := [("podium/digest.start", laid_podium_digest_start), ("podium/digest.numbers", laid_podium_digest_numbers)] }
def OpeningClosedSaid : Prop := openingClosedRow.holds Tryz.pinned (OpenSpec.ofChange openingClosedSpec)

/-- ITS FALSE NEIGHBOUR: 'it returns false'. Refute it at one input. -/
def openingClosedWrong : ChangeSpec := { name := "openingClosed", fn := fun _ => fun
  | [d1, d2, d3] => { results := [.lit (.bool false)], args := [d1, d2, d3] }
  | _ => none }
def OpeningClosedWrongFalsely : Prop := openingClosedRow.holds Tryz.pinned (OpenSpec.ofChange openingClosedWrong)

/-- 'podiumlaw36.OpeningFew': WHATEVER THE INPUT: true; the input reads as it did. -/
def openingFewSpec : ChangeSpec := { name := "openingFew", fn := fun _ => fun
  | [d1, d2, d3] => { results := [.lit (.bool true)], args := [d1, d2, d3] }
  | _ => none }
def openingFewRow : OpenClaim := { program := "ytnooplpbpfiapaagreatdoor", sum := "1ec40f83f092a7c06663f75617ac466df7a139b4219e75b4ce0e2cfc24f9c827", func := "podium/podiumlaw36.OpeningFew", spec := "openingFew", inPlace := ["slices.overlaps[podium/api.Sealed]", "slices.overlaps[podium/api.KeyShare]", "slices.overlaps[podium/api.Shown]"], unfollowed := true, recurses := true, named := ["podium/digest.start", "podium/digest.numbers"], apart := false, laid := [("podium/digest.start", laid_podium_digest_start), ("podium/digest.numbers", laid_podium_digest_numbers)] }
def OpeningFewSaid : Prop := openingFewRow.holds Tryz.pinned (OpenSpec.ofChange openingFewSpec)

/-- ITS FALSE NEIGHBOUR: 'it returns false'. Refute it at one input. -/
def openingFewWrong : ChangeSpec := { name := "openingFew", fn := fun _ => fun
  | [d1, d2, d3] => { results := [.lit (.bool false)], args := [d1, d2, d3] }
  | _ => none }
def OpeningFewWrongFalsely : Prop := openingFewRow.holds Tryz.pinned (OpenSpec.ofChange openingFewWrong)

/-- 'podiumlaw36.OpeningOpens': WHATEVER THE INPUT: true; the input reads as it did. -/
def openingOpensSpec : ChangeSpec := { name := "openingOpens", fn := fun _ => fun
  | [d1, d2, d3, d4, d5, d6, d7] => { results := [.lit (.bool true)], args := [d1, d2, d3, d4, d5, d6, d7] }
  | _ => none }
def openingOpensRow : OpenClaim := { program := "ytnooplpbpfiapaagreatdoor", sum := "1ec40f83f092a7c06663f75617ac466df7a139b4219e75b4ce0e2cfc24f9c827", func := "podium/podiumlaw36.OpeningOpens", spec := "openingOpens", inPlace := ["slices.overlaps[podium/api.Sealed]", "slices.overlaps[podium/api.KeyShare]", "slices.overlaps[podium/api.Shown]"], unfollowed := true, recurses := true, named := ["podium/digest.start", "podium/digest.numbers"], apart := false, laid := [("podium/digest.start", laid_podium_digest_start), ("podium/digest.numbers", laid_podium_digest_numbers)] }
def OpeningOpensSaid : Prop := openingOpensRow.holds Tryz.pinned (OpenSpec.ofChange openingOpensSpec)

/-- ITS FALSE NEIGHBOUR: 'it returns false'. Refute it at one input. -/
def openingOpensWrong : ChangeSpec := { name := "openingOpens", fn := fun _ => fun
  | [d1, d2, d3, d4, d5, d6, d7] => { results := [.lit (.bool false)], args := [d1, d2, d3, d4, d5, d6, d7] }
  | _ => none }
def OpeningOpensWrongFalsely : Prop := openingOpensRow.holds Tryz.pinned (OpenSpec.ofChange openingOpensWrong)

/- THE SECOND FORM. 'bulk': how many values and letters a reading holds, each counted each time it is reached (what is shared counts as often as it is met; a slice's spare places count too). A statement '..UptoSaid' is the law's where the arguments, and the package variables that the reading takes, are together of bulk at most 1048576: NARROWER than '..Said'. Prove '..Said' where nothing that the law and all that it calls make is longer than what came in: it says more and counts as full. Else prove '..UptoSaid'. A law counts once. -/
mutual
def uptoBulk {H : Type} : DataW H → Nat
  | .lit (.string bytes) => bytes.length + 1
  | .lit _ => 1
  | .nil => 1
  | .ptr d => uptoBulk d + 1
  | .slice elems spare => uptoBulkAll elems + uptoBulkAll spare + 1
  | .agg parts => uptoBulkAll parts + 1
  | .iface _ d => uptoBulk d + 1
  | .map entries => uptoBulkEntries entries + 1
  | .held _ => 1
def uptoBulkAll {H : Type} : List (DataW H) → Nat
  | [] => 0
  | d :: r => uptoBulk d + uptoBulkAll r
def uptoBulkEntries {H : Type} : List (Lit × DataW H) → Nat
  | [] => 0
  | x :: r => uptoBulkEntry x + uptoBulkEntries r
def uptoBulkEntry {H : Type} : Lit × DataW H → Nat
  | (.string bytes, d) => bytes.length + uptoBulk d + 1
  | (_, d) => uptoBulk d + 1
 end
def uptoSmall : (H : Type) → List (DataW H) → Bool := fun _ ds => decide (uptoBulkAll ds ≤ 1048576)
def OpenSpec.upto (s : _root_.Go.ChangeSpec) : _root_.Go.OpenSpec := { _root_.Go.OpenSpec.ofChange s with cond := some uptoSmall }

/-- 'podiumlaw36.OpeningSpec', WHERE WHAT IT READS IS OF BULK AT MOST 1048576: true; the input reads as it did. -/
def openingSpecUptoRow : OpenClaim := { program := "ytnooplpbpfiapaagreatdoor", sum := "1ec40f83f092a7c06663f75617ac466df7a139b4219e75b4ce0e2cfc24f9c827", func := "podium/podiumlaw36.OpeningSpec", spec := "openingSpec", inPlace := ["slices.overlaps[podium/api.Sealed]", "slices.overlaps[podium/api.KeyShare]", "slices.overlaps[podium/api.Shown]"], unfollowed := true, recurses := true, named := ["podium/digest.start", "podium/digest.numbers"], apart := false, laid := [("podium/digest.start", laid_podium_digest_start), ("podium/digest.numbers", laid_podium_digest_numbers)], narrowed := true }
def OpeningSpecUptoSaid : Prop := openingSpecUptoRow.holds Tryz.pinned (OpenSpec.upto openingSpecSpec)

/-- 'podiumlaw36.OpeningCardsSpec', WHERE WHAT IT READS IS OF BULK AT MOST 1048576: true; the input reads as it did. -/
def openingCardsSpecUptoRow : OpenClaim := { program := "ytnooplpbpfiapaagreatdoor", sum := "1ec40f83f092a7c06663f75617ac466df7a139b4219e75b4ce0e2cfc24f9c827", func := "podium/podiumlaw36.OpeningCardsSpec", spec := "openingCardsSpec", inPlace := ["slices.overlaps[podium/api.Sealed]", "slices.overlaps[podium/api.KeyShare]", "slices.overlaps[podium/api.Shown]"], unfollowed := true, recurses := true, named := ["podium/digest.start", "podium/digest.numbers"], apart := false, laid := [("podium/digest.start", laid_podium_digest_start), ("podium/digest.numbers", laid_podium_digest_numbers)], narrowed := true }
def OpeningCardsSpecUptoSaid : Prop := openingCardsSpecUptoRow.holds Tryz.pinned (OpenSpec.upto openingCardsSpecSpec)

/-- 'podiumlaw36.OpeningKept', WHERE WHAT IT READS IS OF BULK AT MOST 1048576: true; the input reads as it did. -/
def openingKeptUptoRow : OpenClaim := { program := "ytnooplpbpfiapaagreatdoor", sum := "1ec40f83f092a7c06663f75617ac466df7a139b4219e75b4ce0e2cfc24f9c827", func := "podium/podiumlaw36.OpeningKept", spec := "openingKept", inPlace := ["slices.overlaps[podium/api.Sealed]", "slices.overlaps[podium/api.KeyShare]", "slices.overlaps[podium/api.Shown]"], unfollowed := true, recurses := true, named := ["podium/digest.start", "podium/digest.numbers"], apart := false, laid := [("podium/digest.start", laid_podium_digest_start), ("podium/digest.numbers", laid_podium_digest_numbers)], narrowed := true }
def OpeningKeptUptoSaid : Prop := openingKeptUptoRow.holds Tryz.pinned (OpenSpec.upto openingKeptSpec)

/-- 'podiumlaw36.OpeningOrder', WHERE WHAT IT READS IS OF BULK AT MOST 1048576: true; the input reads as it did. -/
def openingOrderUptoRow : OpenClaim := { program := "ytnooplpbpfiapaagreatdoor", sum := "1ec40f83f092a7c06663f75617ac466df7a139b4219e75b4ce0e2cfc24f9c827", func := "podium/podiumlaw36.OpeningOrder", spec := "openingOrder", inPlace := ["slices.overlaps[podium/api.Sealed]", "slices.overlaps[podium/api.KeyShare]", "slices.overlaps[podium/api.Shown]"], unfollowed := true, recurses := true, named := ["podium/digest.start", "podium/digest.numbers"], apart := false, laid := [("podium/digest.start", laid_podium_digest_start), ("podium/digest.numbers", laid_podium_digest_numbers)], narrowed := true }
def OpeningOrderUptoSaid : Prop := openingOrderUptoRow.holds Tryz.pinned (OpenSpec.upto openingOrderSpec)

/-- 'podiumlaw36.OpeningClosed', WHERE WHAT IT READS IS OF BULK AT MOST 1048576: true; the input reads as it did. -/
def openingClosedUptoRow : OpenClaim := { program := "ytnooplpbpfiapaagreatdoor", sum := "1ec40f83f092a7c06663f75617ac466df7a139b4219e75b4ce0e2cfc24f9c827", func := "podium/podiumlaw36.OpeningClosed", spec := "openingClosed", inPlace := ["slices.overlaps[podium/api.Sealed]", "slices.overlaps[podium/api.KeyShare]", "slices.overlaps[podium/api.Shown]"], unfollowed := true, recurses := true, named := ["podium/digest.start", "podium/digest.numbers"], apart := false, laid := [("podium/digest.start", laid_podium_digest_start), ("podium/digest.numbers", laid_podium_digest_numbers)], narrowed := true }
def OpeningClosedUptoSaid : Prop := openingClosedUptoRow.holds Tryz.pinned (OpenSpec.upto openingClosedSpec)

/-- 'podiumlaw36.OpeningFew', WHERE WHAT IT READS IS OF BULK AT MOST 1048576: true; the input reads as it did. -/
def openingFewUptoRow : OpenClaim := { program := "ytnooplpbpfiapaagreatdoor", sum := "1ec40f83f092a7c06663f75617ac466df7a139b4219e75b4ce0e2cfc24f9c827", func := "podium/podiumlaw36.OpeningFew", spec := "openingFew", inPlace := ["slices.overlaps[podium/api.Sealed]", "slices.overlaps[podium/api.KeyShare]", "slices.overlaps[podium/api.Shown]"], unfollowed := true, recurses := true, named := ["podium/digest.start", "podium/digest.numbers"], apart := false, laid := [("podium/digest.start", laid_podium_digest_start), ("podium/digest.numbers", laid_podium_digest_numbers)], narrowed := true }
def OpeningFewUptoSaid : Prop := openingFewUptoRow.holds Tryz.pinned (OpenSpec.upto openingFewSpec)

/-- 'podiumlaw36.OpeningOpens', WHERE WHAT IT READS IS OF BULK AT MOST 1048576: true; the input reads as it did. -/
def openingOpensUptoRow : OpenClaim := { program := "ytnooplpbpfiapaagreatdoor", sum := "1ec40f83f092a7c06663f75617ac466df7a139b4219e75b4ce0e2cfc24f9c827", func := "podium/podiumlaw36.OpeningOpens", spec := "openingOpens", inPlace := ["slices.overlaps[podium/api.Sealed]", "slices.overlaps[podium/api.KeyShare]", "slices.overlaps[podium/api.Shown]"], unfollowed := true, recurses := true, named := ["podium/digest.start", "podium/digest.numbers"], apart := false, laid := [("podium/digest.start", laid_podium_digest_start), ("podium/digest.numbers", laid_podium_digest_numbers)], narrowed := true }
def OpeningOpensUptoSaid : Prop := openingOpensUptoRow.holds Tryz.pinned (OpenSpec.upto openingOpensSpec)

end Rows
end Go.Proofs.YtnooplpbpfiapaaGreatDoor
