/-
  No cell of these rows narrows 'for every input' (looked for: loops, veiled, ifaces, maps, wideKeys, modest, calm, conditions, laid).
  DERIVED. THE GIVEN ROWS OF THIS SEAT. 6 by the template 'for every input the law returns true; each argument reads behind the call as it read before'; 0 by the template 'total and deterministic' (their statements: YtgjgcflgjpigpaaTotals.lean).
  GIVEN WITH THE SEED: the statements are not yours to turn. If you find one false, say at which input.
  Laid BY PROGRAM, IN A SANDBOX (cutbox-rows.mjs): the forced cells as the released guide's own fill.sh prints them over the translation 6f95995372844713… (all of the seat's roots in one cut). By AI agents, Wed Nov 11 2026. No macro, syntax, notation, axiom, sorry.
-/
import Derived.Test.YtgjgcflgjpigpaaChecked
import GoSem.Claim
import GoSem.ClaimJoined
import GoSem.ClaimMapViews
import Derived.JoinedTies
import Derived.KernelRfl
namespace Go.Proofs.Ytgjgcflgjpigpaa
/- THE CELL 'sum', in the pinned program and in every row, IS THE sha256 OF THE DUMP (.gsa) THAT YtgjgcflgjpigpaaProg.lean LOADS. Nothing in Lean hashes anything: it is a label: what it is worth is what the hold of that sum in a sandbox is worth. -/
noncomputable def Try.pinned : Pinned := { name := "ytgjgcflgjpigpaa", sum := "6f959953728447136d1a935c145cdb8d91f3c8f23832c054c09a66fe0152efdc", checked := Try.checked }
namespace Rows
def none {H : Type} : Left H := { results := [], args := [] }

/-- 'podiumlaw26.SeasonSpec': WHATEVER THE INPUT: true; the input reads as it did. -/
def seasonSpecSpec : ChangeSpec := { name := "seasonSpec", fn := fun _ => fun
  | [d1, d2, d3, d4] => { results := [.lit (.bool true)], args := [d1, d2, d3, d4] }
  | _ => none }
def seasonSpecRow : OpenClaim := { program := "ytgjgcflgjpigpaa", sum := "6f959953728447136d1a935c145cdb8d91f3c8f23832c054c09a66fe0152efdc", func := "podium/podiumlaw26.SeasonSpec", spec := "seasonSpec", unfollowed := true, recurses := true, apart := false }
def SeasonSpecSaid : Prop := seasonSpecRow.holds Try.pinned (OpenSpec.ofChange seasonSpecSpec)

/-- ITS FALSE NEIGHBOUR: 'it returns false'. Refute it at one input. -/
def seasonSpecWrong : ChangeSpec := { name := "seasonSpec", fn := fun _ => fun
  | [d1, d2, d3, d4] => { results := [.lit (.bool false)], args := [d1, d2, d3, d4] }
  | _ => none }
def SeasonSpecWrongFalsely : Prop := seasonSpecRow.holds Try.pinned (OpenSpec.ofChange seasonSpecWrong)

/-- 'podiumlaw26.SeasonRecordsSpec': WHATEVER THE INPUT: true; the input reads as it did. -/
def seasonRecordsSpecSpec : ChangeSpec := { name := "seasonRecordsSpec", fn := fun _ => fun
  | [d] => { results := [.lit (.bool true)], args := [d] }
  | _ => none }
def seasonRecordsSpecRow : OpenClaim := { program := "ytgjgcflgjpigpaa", sum := "6f959953728447136d1a935c145cdb8d91f3c8f23832c054c09a66fe0152efdc", func := "podium/podiumlaw26.SeasonRecordsSpec", spec := "seasonRecordsSpec", unfollowed := true, recurses := true, apart := false }
def SeasonRecordsSpecSaid : Prop := seasonRecordsSpecRow.holds Try.pinned (OpenSpec.ofChange seasonRecordsSpecSpec)

/-- ITS FALSE NEIGHBOUR: 'it returns false'. Refute it at one input. -/
def seasonRecordsSpecWrong : ChangeSpec := { name := "seasonRecordsSpec", fn := fun _ => fun
  | [d] => { results := [.lit (.bool false)], args := [d] }
  | _ => none }
def SeasonRecordsSpecWrongFalsely : Prop := seasonRecordsSpecRow.holds Try.pinned (OpenSpec.ofChange seasonRecordsSpecWrong)

/-- 'podiumlaw26.SeasonBest': WHATEVER THE INPUT: true; the input reads as it did. -/
def seasonBestSpec : ChangeSpec := { name := "seasonBest", fn := fun _ => fun
  | [d1, d2] => { results := [.lit (.bool true)], args := [d1, d2] }
  | _ => none }
def seasonBestRow : OpenClaim := { program := "ytgjgcflgjpigpaa", sum := "6f959953728447136d1a935c145cdb8d91f3c8f23832c054c09a66fe0152efdc", func := "podium/podiumlaw26.SeasonBest", spec := "seasonBest", unfollowed := true, recurses := true, apart := false }
def SeasonBestSaid : Prop := seasonBestRow.holds Try.pinned (OpenSpec.ofChange seasonBestSpec)

/-- ITS FALSE NEIGHBOUR: 'it returns false'. Refute it at one input. -/
def seasonBestWrong : ChangeSpec := { name := "seasonBest", fn := fun _ => fun
  | [d1, d2] => { results := [.lit (.bool false)], args := [d1, d2] }
  | _ => none }
def SeasonBestWrongFalsely : Prop := seasonBestRow.holds Try.pinned (OpenSpec.ofChange seasonBestWrong)

/-- 'podiumlaw26.SeasonRanks': WHATEVER THE INPUT: true; the input reads as it did. -/
def seasonRanksSpec : ChangeSpec := { name := "seasonRanks", fn := fun _ => fun
  | [d1, d2] => { results := [.lit (.bool true)], args := [d1, d2] }
  | _ => none }
def seasonRanksRow : OpenClaim := { program := "ytgjgcflgjpigpaa", sum := "6f959953728447136d1a935c145cdb8d91f3c8f23832c054c09a66fe0152efdc", func := "podium/podiumlaw26.SeasonRanks", spec := "seasonRanks", unfollowed := true, recurses := true, apart := false }
def SeasonRanksSaid : Prop := seasonRanksRow.holds Try.pinned (OpenSpec.ofChange seasonRanksSpec)

/-- ITS FALSE NEIGHBOUR: 'it returns false'. Refute it at one input. -/
def seasonRanksWrong : ChangeSpec := { name := "seasonRanks", fn := fun _ => fun
  | [d1, d2] => { results := [.lit (.bool false)], args := [d1, d2] }
  | _ => none }
def SeasonRanksWrongFalsely : Prop := seasonRanksRow.holds Try.pinned (OpenSpec.ofChange seasonRanksWrong)

/-- 'podiumlaw26.SeasonMore': WHATEVER THE INPUT: true; the input reads as it did. -/
def seasonMoreSpec : ChangeSpec := { name := "seasonMore", fn := fun _ => fun
  | [d1, d2, d3, d4] => { results := [.lit (.bool true)], args := [d1, d2, d3, d4] }
  | _ => none }
def seasonMoreRow : OpenClaim := { program := "ytgjgcflgjpigpaa", sum := "6f959953728447136d1a935c145cdb8d91f3c8f23832c054c09a66fe0152efdc", func := "podium/podiumlaw26.SeasonMore", spec := "seasonMore", unfollowed := true, recurses := true, apart := false }
def SeasonMoreSaid : Prop := seasonMoreRow.holds Try.pinned (OpenSpec.ofChange seasonMoreSpec)

/-- ITS FALSE NEIGHBOUR: 'it returns false'. Refute it at one input. -/
def seasonMoreWrong : ChangeSpec := { name := "seasonMore", fn := fun _ => fun
  | [d1, d2, d3, d4] => { results := [.lit (.bool false)], args := [d1, d2, d3, d4] }
  | _ => none }
def SeasonMoreWrongFalsely : Prop := seasonMoreRow.holds Try.pinned (OpenSpec.ofChange seasonMoreWrong)

/-- 'podiumlaw26.SeasonRising': WHATEVER THE INPUT: true; the input reads as it did. -/
def seasonRisingSpec : ChangeSpec := { name := "seasonRising", fn := fun _ => fun
  | [d1, d2] => { results := [.lit (.bool true)], args := [d1, d2] }
  | _ => none }
def seasonRisingRow : OpenClaim := { program := "ytgjgcflgjpigpaa", sum := "6f959953728447136d1a935c145cdb8d91f3c8f23832c054c09a66fe0152efdc", func := "podium/podiumlaw26.SeasonRising", spec := "seasonRising", unfollowed := true, recurses := true, apart := false }
def SeasonRisingSaid : Prop := seasonRisingRow.holds Try.pinned (OpenSpec.ofChange seasonRisingSpec)

/-- ITS FALSE NEIGHBOUR: 'it returns false'. Refute it at one input. -/
def seasonRisingWrong : ChangeSpec := { name := "seasonRising", fn := fun _ => fun
  | [d1, d2] => { results := [.lit (.bool false)], args := [d1, d2] }
  | _ => none }
def SeasonRisingWrongFalsely : Prop := seasonRisingRow.holds Try.pinned (OpenSpec.ofChange seasonRisingWrong)

/- THE SECOND FORM. 'bulk': how many values and letters a reading holds, each counted each time it is reached (what is shared counts as often as it is met; a slice's spare places count too). A statement '..UptoSaid' is the law's where the arguments, and the package variables that the reading takes, are together of bulk at most 1048576: NARROWER than '..Said'. Prove '..Said' where nothing that the law and all that it calls make is longer than what came in: it says more and counts as full. Else prove '..UptoSaid'. A law counts once. -/
mutual
def uptoBulk {H : Type} : DataW H → Nat
  | .lit (.string bytes) => bytes.length + 1
  | .lit _ => 1
  | .nil => 1
  | .ptr d => uptoBulk d + 1
  | .slice elems spare => uptoBulkAll elems + uptoBulkAll spare + 1
  | .agg parts => uptoBulkAll parts + 1
  | .iface _ d => uptoBulk d + 1
  | .map entries => uptoBulkEntries entries + 1
  | .held _ => 1
def uptoBulkAll {H : Type} : List (DataW H) → Nat
  | [] => 0
  | d :: r => uptoBulk d + uptoBulkAll r
def uptoBulkEntries {H : Type} : List (Lit × DataW H) → Nat
  | [] => 0
  | x :: r => uptoBulkEntry x + uptoBulkEntries r
def uptoBulkEntry {H : Type} : Lit × DataW H → Nat
  | (.string bytes, d) => bytes.length + uptoBulk d + 1
  | (_, d) => uptoBulk d + 1
 end
def uptoSmall : (H : Type) → List (DataW H) → Bool := fun _ ds => decide (uptoBulkAll ds ≤ 1048576)
def OpenSpec.upto (s : _root_.Go.ChangeSpec) : _root_.Go.OpenSpec := { _root_.Go.OpenSpec.ofChange s with cond := some uptoSmall }

/-- 'podiumlaw26.SeasonSpec', WHERE WHAT IT READS IS OF BULK AT MOST 1048576: true; the input reads as it did. -/
def seasonSpecUptoRow : OpenClaim := { program := "ytgjgcflgjpigpaa", sum := "6f959953728447136d1a935c145cdb8d91f3c8f23832c054c09a66fe0152efdc", func := "podium/podiumlaw26.SeasonSpec", spec := "seasonSpec", unfollowed := true, recurses := true, apart := false, narrowed := true }
def SeasonSpecUptoSaid : Prop := seasonSpecUptoRow.holds Try.pinned (OpenSpec.upto seasonSpecSpec)

/-- 'podiumlaw26.SeasonRecordsSpec', WHERE WHAT IT READS IS OF BULK AT MOST 1048576: true; the input reads as it did. -/
def seasonRecordsSpecUptoRow : OpenClaim := { program := "ytgjgcflgjpigpaa", sum := "6f959953728447136d1a935c145cdb8d91f3c8f23832c054c09a66fe0152efdc", func := "podium/podiumlaw26.SeasonRecordsSpec", spec := "seasonRecordsSpec", unfollowed := true, recurses := true, apart := false, narrowed := true }
def SeasonRecordsSpecUptoSaid : Prop := seasonRecordsSpecUptoRow.holds Try.pinned (OpenSpec.upto seasonRecordsSpecSpec)

/-- 'podiumlaw26.SeasonBest', WHERE WHAT IT READS IS OF BULK AT MOST 1048576: true; the input reads as it did. -/
def seasonBestUptoRow : OpenClaim := { program := "ytgjgcflgjpigpaa", sum := "6f959953728447136d1a935c145cdb8d91f3c8f23832c054c09a66fe0152efdc", func := "podium/podiumlaw26.SeasonBest", spec := "seasonBest", unfollowed := true, recurses := true, apart := false, narrowed := true }
def SeasonBestUptoSaid : Prop := seasonBestUptoRow.holds Try.pinned (OpenSpec.upto seasonBestSpec)

/-- 'podiumlaw26.SeasonRanks', WHERE WHAT IT READS IS OF BULK AT MOST 1048576: true; the input reads as it did. -/
def seasonRanksUptoRow : OpenClaim := { program := "ytgjgcflgjpigpaa", sum := "6f959953728447136d1a935c145cdb8d91f3c8f23832c054c09a66fe0152efdc", func := "podium/podiumlaw26.SeasonRanks", spec := "seasonRanks", unfollowed := true, recurses := true, apart := false, narrowed := true }
def SeasonRanksUptoSaid : Prop := seasonRanksUptoRow.holds Try.pinned (OpenSpec.upto seasonRanksSpec)

/-- 'podiumlaw26.SeasonMore', WHERE WHAT IT READS IS OF BULK AT MOST 1048576: true; the input reads as it did. -/
def seasonMoreUptoRow : OpenClaim := { program := "ytgjgcflgjpigpaa", sum := "6f959953728447136d1a935c145cdb8d91f3c8f23832c054c09a66fe0152efdc", func := "podium/podiumlaw26.SeasonMore", spec := "seasonMore", unfollowed := true, recurses := true, apart := false, narrowed := true }
def SeasonMoreUptoSaid : Prop := seasonMoreUptoRow.holds Try.pinned (OpenSpec.upto seasonMoreSpec)

/-- 'podiumlaw26.SeasonRising', WHERE WHAT IT READS IS OF BULK AT MOST 1048576: true; the input reads as it did. -/
def seasonRisingUptoRow : OpenClaim := { program := "ytgjgcflgjpigpaa", sum := "6f959953728447136d1a935c145cdb8d91f3c8f23832c054c09a66fe0152efdc", func := "podium/podiumlaw26.SeasonRising", spec := "seasonRising", unfollowed := true, recurses := true, apart := false, narrowed := true }
def SeasonRisingUptoSaid : Prop := seasonRisingUptoRow.holds Try.pinned (OpenSpec.upto seasonRisingSpec)

end Rows
end Go.Proofs.Ytgjgcflgjpigpaa
