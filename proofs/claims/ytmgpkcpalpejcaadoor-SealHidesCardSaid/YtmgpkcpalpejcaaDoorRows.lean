/-
  NARROWER THAN 'FOR EVERY INPUT', by the rows' own cells (each row's printed sentence says how): SealSpec: laid · SealOpenSpec: laid · SealBack: laid · SealBound: laid · SealHides: laid.
  DERIVED. THE GIVEN ROWS OF THIS SEAT. 5 by the template 'for every input the law returns true; each argument reads behind the call as it read before'; 0 by the template 'total and deterministic' (their statements: YtmgpkcpalpejcaaDoorTotals.lean).
  GIVEN WITH THE SEED: the statements are not yours to turn. If you find one false, say at which input.
  Laid BY PROGRAM, IN A SANDBOX (cutbox-rows.mjs): the forced cells as the released guide's own fill.sh prints them over the translation 5966cd90ceeec908… (all of the seat's roots in one cut). By AI agents, Wed Nov 11 2026. No macro, syntax, notation, axiom, sorry.
-/
import Derived.Test.YtmgpkcpalpejcaaDoorChecked
import GoSem.Claim
import GoSem.ClaimJoined
import GoSem.ClaimMapViews
import Derived.JoinedTies
import Derived.KernelRfl
namespace Go.Proofs.YtmgpkcpalpejcaaDoor
/- THE CELL 'sum', in the pinned program and in every row, IS THE sha256 OF THE DUMP (.gsa) THAT YtmgpkcpalpejcaaDoorProg.lean LOADS. Nothing in Lean hashes anything: it is a label: what it is worth is what the hold of that sum in a sandbox is worth. -/
noncomputable def Tryd.pinned : Pinned := { name := "ytmgpkcpalpejcaadoor", sum := "5966cd90ceeec908aee51625997ca54c848b8b9c55a66b0570402621d7c74ab4", checked := Tryd.checked }
namespace Rows
def none {H : Type} : Left H := { results := [], args := [] }

/- WHAT THE LISTED PACKAGE-LEVEL VARIABLES READ AS WHEN THE CALL BEGINS. Each datum BY PROGRAM (the guide's laid-datum.mjs) off the statement by which the dump's own 'gosem.cut.vars' lays the variable. In a bare row this is a premise. The card (YtmgpkcpalpejcaaDoorCards.lean) ties it to the program's text. -/
def laid_podium_digest_start {H : Type} : DataW H := .agg [.lit (.int .u32 1779033703), .lit (.int .u32 3144134277), .lit (.int .u32 1013904242), .lit (.int .u32 2773480762), .lit (.int .u32 1359893119), .lit (.int .u32 2600822924), .lit (.int .u32 528734635), .lit (.int .u32 1541459225)]
def laid_podium_digest_numbers {H : Type} : DataW H := .agg [.lit (.int .u32 1116352408), .lit (.int .u32 1899447441), .lit (.int .u32 3049323471), .lit (.int .u32 3921009573), .lit (.int .u32 961987163), .lit (.int .u32 1508970993), .lit (.int .u32 2453635748), .lit (.int .u32 2870763221), .lit (.int .u32 3624381080), .lit (.int .u32 310598401), .lit (.int .u32 607225278), .lit (.int .u32 1426881987), .lit (.int .u32 1925078388), .lit (.int .u32 2162078206), .lit (.int .u32 2614888103), .lit (.int .u32 3248222580), .lit (.int .u32 3835390401), .lit (.int .u32 4022224774), .lit (.int .u32 264347078), .lit (.int .u32 604807628), .lit (.int .u32 770255983), .lit (.int .u32 1249150122), .lit (.int .u32 1555081692), .lit (.int .u32 1996064986), .lit (.int .u32 2554220882), .lit (.int .u32 2821834349), .lit (.int .u32 2952996808), .lit (.int .u32 3210313671), .lit (.int .u32 3336571891), .lit (.int .u32 3584528711), .lit (.int .u32 113926993), .lit (.int .u32 338241895), .lit (.int .u32 666307205), .lit (.int .u32 773529912), .lit (.int .u32 1294757372), .lit (.int .u32 1396182291), .lit (.int .u32 1695183700), .lit (.int .u32 1986661051), .lit (.int .u32 2177026350), .lit (.int .u32 2456956037), .lit (.int .u32 2730485921), .lit (.int .u32 2820302411), .lit (.int .u32 3259730800), .lit (.int .u32 3345764771), .lit (.int .u32 3516065817), .lit (.int .u32 3600352804), .lit (.int .u32 4094571909), .lit (.int .u32 275423344), .lit (.int .u32 430227734), .lit (.int .u32 506948616), .lit (.int .u32 659060556), .lit (.int .u32 883997877), .lit (.int .u32 958139571), .lit (.int .u32 1322822218), .lit (.int .u32 1537002063), .lit (.int .u32 1747873779), .lit (.int .u32 1955562222), .lit (.int .u32 2024104815), .lit (.int .u32 2227730452), .lit (.int .u32 2361852424), .lit (.int .u32 2428436474), .lit (.int .u32 2756734187), .lit (.int .u32 3204031479), .lit (.int .u32 3329325298)]

/-- 'podiumlaw34.SealSpec': WHATEVER THE INPUT: true; the input reads as it did. -/
def sealSpecSpec : ChangeSpec := { name := "sealSpec", fn := fun _ => fun
  | [d1, d2, d3, d4, d5, d6, d7] => { results := [.lit (.bool true)], args := [d1, d2, d3, d4, d5, d6, d7] }
  | _ => none }
def sealSpecRow : OpenClaim := { program := "ytmgpkcpalpejcaadoor", sum := "5966cd90ceeec908aee51625997ca54c848b8b9c55a66b0570402621d7c74ab4", func := "podium/podiumlaw34.SealSpec", spec := "sealSpec", unfollowed := true, recurses := true, named := ["podium/digest.start", "podium/digest.numbers"], apart := false, laid := [("podium/digest.start", laid_podium_digest_start), ("podium/digest.numbers", laid_podium_digest_numbers)] }
def SealSpecSaid : Prop := sealSpecRow.holds Tryd.pinned (OpenSpec.ofChange sealSpecSpec)

/-- ITS FALSE NEIGHBOUR: 'it returns false'. Refute it at one input. -/
def sealSpecWrong : ChangeSpec := { name := "sealSpec", fn := fun _ => fun
  | [d1, d2, d3, d4, d5, d6, d7] => { results := [.lit (.bool false)], args := [d1, d2, d3, d4, d5, d6, d7] }
  | _ => none }
def SealSpecWrongFalsely : Prop := sealSpecRow.holds Tryd.pinned (OpenSpec.ofChange sealSpecWrong)

/-- 'podiumlaw34.SealOpenSpec': WHATEVER THE INPUT: true; the input reads as it did. -/
def sealOpenSpecSpec : ChangeSpec := { name := "sealOpenSpec", fn := fun _ => fun
  | [d1, d2, d3] => { results := [.lit (.bool true)], args := [d1, d2, d3] }
  | _ => none }
def sealOpenSpecRow : OpenClaim := { program := "ytmgpkcpalpejcaadoor", sum := "5966cd90ceeec908aee51625997ca54c848b8b9c55a66b0570402621d7c74ab4", func := "podium/podiumlaw34.SealOpenSpec", spec := "sealOpenSpec", unfollowed := true, recurses := true, named := ["podium/digest.start", "podium/digest.numbers"], apart := false, laid := [("podium/digest.start", laid_podium_digest_start), ("podium/digest.numbers", laid_podium_digest_numbers)] }
def SealOpenSpecSaid : Prop := sealOpenSpecRow.holds Tryd.pinned (OpenSpec.ofChange sealOpenSpecSpec)

/-- ITS FALSE NEIGHBOUR: 'it returns false'. Refute it at one input. -/
def sealOpenSpecWrong : ChangeSpec := { name := "sealOpenSpec", fn := fun _ => fun
  | [d1, d2, d3] => { results := [.lit (.bool false)], args := [d1, d2, d3] }
  | _ => none }
def SealOpenSpecWrongFalsely : Prop := sealOpenSpecRow.holds Tryd.pinned (OpenSpec.ofChange sealOpenSpecWrong)

/-- 'podiumlaw34.SealBack': WHATEVER THE INPUT: true; the input reads as it did. -/
def sealBackSpec : ChangeSpec := { name := "sealBack", fn := fun _ => fun
  | [d1, d2, d3, d4, d5, d6] => { results := [.lit (.bool true)], args := [d1, d2, d3, d4, d5, d6] }
  | _ => none }
def sealBackRow : OpenClaim := { program := "ytmgpkcpalpejcaadoor", sum := "5966cd90ceeec908aee51625997ca54c848b8b9c55a66b0570402621d7c74ab4", func := "podium/podiumlaw34.SealBack", spec := "sealBack", unfollowed := true, recurses := true, named := ["podium/digest.start", "podium/digest.numbers"], apart := false, laid := [("podium/digest.start", laid_podium_digest_start), ("podium/digest.numbers", laid_podium_digest_numbers)] }
def SealBackSaid : Prop := sealBackRow.holds Tryd.pinned (OpenSpec.ofChange sealBackSpec)

/-- ITS FALSE NEIGHBOUR: 'it returns false'. Refute it at one input. -/
def sealBackWrong : ChangeSpec := { name := "sealBack", fn := fun _ => fun
  | [d1, d2, d3, d4, d5, d6] => { results := [.lit (.bool false)], args := [d1, d2, d3, d4, d5, d6] }
  | _ => none }
def SealBackWrongFalsely : Prop := sealBackRow.holds Tryd.pinned (OpenSpec.ofChange sealBackWrong)

/-- 'podiumlaw34.SealBound': WHATEVER THE INPUT: true; the input reads as it did. -/
def sealBoundSpec : ChangeSpec := { name := "sealBound", fn := fun _ => fun
  | [d1, d2, d3, d4, d5, d6, d7, d8] => { results := [.lit (.bool true)], args := [d1, d2, d3, d4, d5, d6, d7, d8] }
  | _ => none }
def sealBoundRow : OpenClaim := { program := "ytmgpkcpalpejcaadoor", sum := "5966cd90ceeec908aee51625997ca54c848b8b9c55a66b0570402621d7c74ab4", func := "podium/podiumlaw34.SealBound", spec := "sealBound", unfollowed := true, recurses := true, named := ["podium/digest.start", "podium/digest.numbers"], apart := false, laid := [("podium/digest.start", laid_podium_digest_start), ("podium/digest.numbers", laid_podium_digest_numbers)] }
def SealBoundSaid : Prop := sealBoundRow.holds Tryd.pinned (OpenSpec.ofChange sealBoundSpec)

/-- ITS FALSE NEIGHBOUR: 'it returns false'. Refute it at one input. -/
def sealBoundWrong : ChangeSpec := { name := "sealBound", fn := fun _ => fun
  | [d1, d2, d3, d4, d5, d6, d7, d8] => { results := [.lit (.bool false)], args := [d1, d2, d3, d4, d5, d6, d7, d8] }
  | _ => none }
def SealBoundWrongFalsely : Prop := sealBoundRow.holds Tryd.pinned (OpenSpec.ofChange sealBoundWrong)

/-- 'podiumlaw34.SealHides': WHATEVER THE INPUT: true; the input reads as it did. -/
def sealHidesSpec : ChangeSpec := { name := "sealHides", fn := fun _ => fun
  | [d1, d2, d3, d4, d5, d6, d7] => { results := [.lit (.bool true)], args := [d1, d2, d3, d4, d5, d6, d7] }
  | _ => none }
def sealHidesRow : OpenClaim := { program := "ytmgpkcpalpejcaadoor", sum := "5966cd90ceeec908aee51625997ca54c848b8b9c55a66b0570402621d7c74ab4", func := "podium/podiumlaw34.SealHides", spec := "sealHides", unfollowed := true, recurses := true, named := ["podium/digest.start", "podium/digest.numbers"], apart := false, laid := [("podium/digest.start", laid_podium_digest_start), ("podium/digest.numbers", laid_podium_digest_numbers)] }
def SealHidesSaid : Prop := sealHidesRow.holds Tryd.pinned (OpenSpec.ofChange sealHidesSpec)

/-- ITS FALSE NEIGHBOUR: 'it returns false'. Refute it at one input. -/
def sealHidesWrong : ChangeSpec := { name := "sealHides", fn := fun _ => fun
  | [d1, d2, d3, d4, d5, d6, d7] => { results := [.lit (.bool false)], args := [d1, d2, d3, d4, d5, d6, d7] }
  | _ => none }
def SealHidesWrongFalsely : Prop := sealHidesRow.holds Tryd.pinned (OpenSpec.ofChange sealHidesWrong)

/- THE SECOND FORM. 'bulk': how many values and letters a reading holds, each counted each time it is reached (what is shared counts as often as it is met; a slice's spare places count too). A statement '..UptoSaid' is the law's where the arguments, and the package variables that the reading takes, are together of bulk at most 1048576: NARROWER than '..Said'. Prove '..Said' where nothing that the law and all that it calls make is longer than what came in: it says more and counts as full. Else prove '..UptoSaid'. A law counts once. -/
mutual
def uptoBulk {H : Type} : DataW H → Nat
  | .lit (.string bytes) => bytes.length + 1
  | .lit _ => 1
  | .nil => 1
  | .ptr d => uptoBulk d + 1
  | .slice elems spare => uptoBulkAll elems + uptoBulkAll spare + 1
  | .agg parts => uptoBulkAll parts + 1
  | .iface _ d => uptoBulk d + 1
  | .map entries => uptoBulkEntries entries + 1
  | .held _ => 1
def uptoBulkAll {H : Type} : List (DataW H) → Nat
  | [] => 0
  | d :: r => uptoBulk d + uptoBulkAll r
def uptoBulkEntries {H : Type} : List (Lit × DataW H) → Nat
  | [] => 0
  | x :: r => uptoBulkEntry x + uptoBulkEntries r
def uptoBulkEntry {H : Type} : Lit × DataW H → Nat
  | (.string bytes, d) => bytes.length + uptoBulk d + 1
  | (_, d) => uptoBulk d + 1
 end
def uptoSmall : (H : Type) → List (DataW H) → Bool := fun _ ds => decide (uptoBulkAll ds ≤ 1048576)
def OpenSpec.upto (s : _root_.Go.ChangeSpec) : _root_.Go.OpenSpec := { _root_.Go.OpenSpec.ofChange s with cond := some uptoSmall }

/-- 'podiumlaw34.SealSpec', WHERE WHAT IT READS IS OF BULK AT MOST 1048576: true; the input reads as it did. -/
def sealSpecUptoRow : OpenClaim := { program := "ytmgpkcpalpejcaadoor", sum := "5966cd90ceeec908aee51625997ca54c848b8b9c55a66b0570402621d7c74ab4", func := "podium/podiumlaw34.SealSpec", spec := "sealSpec", unfollowed := true, recurses := true, named := ["podium/digest.start", "podium/digest.numbers"], apart := false, laid := [("podium/digest.start", laid_podium_digest_start), ("podium/digest.numbers", laid_podium_digest_numbers)], narrowed := true }
def SealSpecUptoSaid : Prop := sealSpecUptoRow.holds Tryd.pinned (OpenSpec.upto sealSpecSpec)

/-- 'podiumlaw34.SealOpenSpec', WHERE WHAT IT READS IS OF BULK AT MOST 1048576: true; the input reads as it did. -/
def sealOpenSpecUptoRow : OpenClaim := { program := "ytmgpkcpalpejcaadoor", sum := "5966cd90ceeec908aee51625997ca54c848b8b9c55a66b0570402621d7c74ab4", func := "podium/podiumlaw34.SealOpenSpec", spec := "sealOpenSpec", unfollowed := true, recurses := true, named := ["podium/digest.start", "podium/digest.numbers"], apart := false, laid := [("podium/digest.start", laid_podium_digest_start), ("podium/digest.numbers", laid_podium_digest_numbers)], narrowed := true }
def SealOpenSpecUptoSaid : Prop := sealOpenSpecUptoRow.holds Tryd.pinned (OpenSpec.upto sealOpenSpecSpec)

/-- 'podiumlaw34.SealBack', WHERE WHAT IT READS IS OF BULK AT MOST 1048576: true; the input reads as it did. -/
def sealBackUptoRow : OpenClaim := { program := "ytmgpkcpalpejcaadoor", sum := "5966cd90ceeec908aee51625997ca54c848b8b9c55a66b0570402621d7c74ab4", func := "podium/podiumlaw34.SealBack", spec := "sealBack", unfollowed := true, recurses := true, named := ["podium/digest.start", "podium/digest.numbers"], apart := false, laid := [("podium/digest.start", laid_podium_digest_start), ("podium/digest.numbers", laid_podium_digest_numbers)], narrowed := true }
def SealBackUptoSaid : Prop := sealBackUptoRow.holds Tryd.pinned (OpenSpec.upto sealBackSpec)

/-- 'podiumlaw34.SealBound', WHERE WHAT IT READS IS OF BULK AT MOST 1048576: true; the input reads as it did. -/
def sealBoundUptoRow : OpenClaim := { program := "ytmgpkcpalpejcaadoor", sum := "5966cd90ceeec908aee51625997ca54c848b8b9c55a66b0570402621d7c74ab4", func := "podium/podiumlaw34.SealBound", spec := "sealBound", unfollowed := true, recurses := true, named := ["podium/digest.start", "podium/digest.numbers"], apart := false, laid := [("podium/digest.start", laid_podium_digest_start), ("podium/digest.numbers", laid_podium_digest_numbers)], narrowed := true }
def SealBoundUptoSaid : Prop := sealBoundUptoRow.holds Tryd.pinned (OpenSpec.upto sealBoundSpec)

/-- 'podiumlaw34.SealHides', WHERE WHAT IT READS IS OF BULK AT MOST 1048576: true; the input reads as it did. -/
def sealHidesUptoRow : OpenClaim := { program := "ytmgpkcpalpejcaadoor", sum := "5966cd90ceeec908aee51625997ca54c848b8b9c55a66b0570402621d7c74ab4", func := "podium/podiumlaw34.SealHides", spec := "sealHides", unfollowed := true, recurses := true, named := ["podium/digest.start", "podium/digest.numbers"], apart := false, laid := [("podium/digest.start", laid_podium_digest_start), ("podium/digest.numbers", laid_podium_digest_numbers)], narrowed := true }
def SealHidesUptoSaid : Prop := sealHidesUptoRow.holds Tryd.pinned (OpenSpec.upto sealHidesSpec)

end Rows
end Go.Proofs.YtmgpkcpalpejcaaDoor
