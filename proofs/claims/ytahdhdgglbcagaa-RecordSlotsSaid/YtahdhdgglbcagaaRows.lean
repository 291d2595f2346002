/-
  No cell of these rows narrows 'for every input' (looked for: loops, veiled, ifaces, maps, wideKeys, modest, calm, conditions, laid).
  DERIVED. THE GIVEN ROWS OF THIS SEAT. 6 by the template 'for every input the law returns true; each argument reads behind the call as it read before'; 0 by the template 'total and deterministic' (their statements: YtahdhdgglbcagaaTotals.lean).
  GIVEN WITH THE SEED: the statements are not yours to turn. If you find one false, say at which input.
  Laid BY PROGRAM, IN A SANDBOX (cutbox-rows.mjs): the forced cells as the released guide's own fill.sh prints them over the translation 9be48020a7fa8c4c… (all of the seat's roots in one cut). By AI agents, Wed Nov 11 2026. No macro, syntax, notation, axiom, sorry.
-/
import Derived.Test.YtahdhdgglbcagaaChecked
import GoSem.Claim
import GoSem.ClaimJoined
import GoSem.ClaimMapViews
import Derived.JoinedTies
import Derived.KernelRfl
namespace Go.Proofs.Ytahdhdgglbcagaa
/- THE CELL 'sum', in the pinned program and in every row, IS THE sha256 OF THE DUMP (.gsa) THAT YtahdhdgglbcagaaProg.lean LOADS. Nothing in Lean hashes anything: it is a label: what it is worth is what the hold of that sum in a sandbox is worth. -/
noncomputable def Try.pinned : Pinned := { name := "ytahdhdgglbcagaa", sum := "9be48020a7fa8c4cb6a8f1d8a8fb54902a1541bfd571d9282d987bcafe413528", checked := Try.checked }
namespace Rows
def none {H : Type} : Left H := { results := [], args := [] }

/-- 'podiumlaw49.RecordSpec': WHATEVER THE INPUT: true; the input reads as it did. -/
def recordSpecSpec : ChangeSpec := { name := "recordSpec", fn := fun _ => fun
  | [d1, d2] => { results := [.lit (.bool true)], args := [d1, d2] }
  | _ => none }
def recordSpecRow : OpenClaim := { program := "ytahdhdgglbcagaa", sum := "9be48020a7fa8c4cb6a8f1d8a8fb54902a1541bfd571d9282d987bcafe413528", func := "podium/podiumlaw49.RecordSpec", spec := "recordSpec", inPlace := ["slices.overlaps[podium/api.Event]"], unfollowed := true, recurses := true, plainKeys := false, apart := false }
def RecordSpecSaid : Prop := recordSpecRow.holds Try.pinned (OpenSpec.ofChange recordSpecSpec)

/-- ITS FALSE NEIGHBOUR: 'it returns false'. Refute it at one input. -/
def recordSpecWrong : ChangeSpec := { name := "recordSpec", fn := fun _ => fun
  | [d1, d2] => { results := [.lit (.bool false)], args := [d1, d2] }
  | _ => none }
def RecordSpecWrongFalsely : Prop := recordSpecRow.holds Try.pinned (OpenSpec.ofChange recordSpecWrong)

/-- 'podiumlaw49.RecordStandingSpec': WHATEVER THE INPUT: true; the input reads as it did. -/
def recordStandingSpecSpec : ChangeSpec := { name := "recordStandingSpec", fn := fun _ => fun
  | [d1, d2, d3] => { results := [.lit (.bool true)], args := [d1, d2, d3] }
  | _ => none }
def recordStandingSpecRow : OpenClaim := { program := "ytahdhdgglbcagaa", sum := "9be48020a7fa8c4cb6a8f1d8a8fb54902a1541bfd571d9282d987bcafe413528", func := "podium/podiumlaw49.RecordStandingSpec", spec := "recordStandingSpec", inPlace := ["slices.overlaps[podium/api.Event]"], unfollowed := true, recurses := true, plainKeys := false, apart := false }
def RecordStandingSpecSaid : Prop := recordStandingSpecRow.holds Try.pinned (OpenSpec.ofChange recordStandingSpecSpec)

/-- ITS FALSE NEIGHBOUR: 'it returns false'. Refute it at one input. -/
def recordStandingSpecWrong : ChangeSpec := { name := "recordStandingSpec", fn := fun _ => fun
  | [d1, d2, d3] => { results := [.lit (.bool false)], args := [d1, d2, d3] }
  | _ => none }
def RecordStandingSpecWrongFalsely : Prop := recordStandingSpecRow.holds Try.pinned (OpenSpec.ofChange recordStandingSpecWrong)

/-- 'podiumlaw49.RecordOne': WHATEVER THE INPUT: true; the input reads as it did. -/
def recordOneSpec : ChangeSpec := { name := "recordOne", fn := fun _ => fun
  | [d1, d2, d3] => { results := [.lit (.bool true)], args := [d1, d2, d3] }
  | _ => none }
def recordOneRow : OpenClaim := { program := "ytahdhdgglbcagaa", sum := "9be48020a7fa8c4cb6a8f1d8a8fb54902a1541bfd571d9282d987bcafe413528", func := "podium/podiumlaw49.RecordOne", spec := "recordOne", inPlace := ["slices.overlaps[podium/api.Event]"], unfollowed := true, recurses := true, plainKeys := false, apart := false }
def RecordOneSaid : Prop := recordOneRow.holds Try.pinned (OpenSpec.ofChange recordOneSpec)

/-- ITS FALSE NEIGHBOUR: 'it returns false'. Refute it at one input. -/
def recordOneWrong : ChangeSpec := { name := "recordOne", fn := fun _ => fun
  | [d1, d2, d3] => { results := [.lit (.bool false)], args := [d1, d2, d3] }
  | _ => none }
def RecordOneWrongFalsely : Prop := recordOneRow.holds Try.pinned (OpenSpec.ofChange recordOneWrong)

/-- 'podiumlaw49.RecordOrder': WHATEVER THE INPUT: true; the input reads as it did. -/
def recordOrderSpec : ChangeSpec := { name := "recordOrder", fn := fun _ => fun
  | [d1, d2, d3] => { results := [.lit (.bool true)], args := [d1, d2, d3] }
  | _ => none }
def recordOrderRow : OpenClaim := { program := "ytahdhdgglbcagaa", sum := "9be48020a7fa8c4cb6a8f1d8a8fb54902a1541bfd571d9282d987bcafe413528", func := "podium/podiumlaw49.RecordOrder", spec := "recordOrder", inPlace := ["slices.overlaps[podium/api.Event]"], unfollowed := true, recurses := true, plainKeys := false, apart := false }
def RecordOrderSaid : Prop := recordOrderRow.holds Try.pinned (OpenSpec.ofChange recordOrderSpec)

/-- ITS FALSE NEIGHBOUR: 'it returns false'. Refute it at one input. -/
def recordOrderWrong : ChangeSpec := { name := "recordOrder", fn := fun _ => fun
  | [d1, d2, d3] => { results := [.lit (.bool false)], args := [d1, d2, d3] }
  | _ => none }
def RecordOrderWrongFalsely : Prop := recordOrderRow.holds Try.pinned (OpenSpec.ofChange recordOrderWrong)

/-- 'podiumlaw49.RecordLater': WHATEVER THE INPUT: true; the input reads as it did. -/
def recordLaterSpec : ChangeSpec := { name := "recordLater", fn := fun _ => fun
  | [d1, d2, d3] => { results := [.lit (.bool true)], args := [d1, d2, d3] }
  | _ => none }
def recordLaterRow : OpenClaim := { program := "ytahdhdgglbcagaa", sum := "9be48020a7fa8c4cb6a8f1d8a8fb54902a1541bfd571d9282d987bcafe413528", func := "podium/podiumlaw49.RecordLater", spec := "recordLater", inPlace := ["slices.overlaps[podium/api.Event]"], unfollowed := true, recurses := true, plainKeys := false, apart := false }
def RecordLaterSaid : Prop := recordLaterRow.holds Try.pinned (OpenSpec.ofChange recordLaterSpec)

/-- ITS FALSE NEIGHBOUR: 'it returns false'. Refute it at one input. -/
def recordLaterWrong : ChangeSpec := { name := "recordLater", fn := fun _ => fun
  | [d1, d2, d3] => { results := [.lit (.bool false)], args := [d1, d2, d3] }
  | _ => none }
def RecordLaterWrongFalsely : Prop := recordLaterRow.holds Try.pinned (OpenSpec.ofChange recordLaterWrong)

/-- 'podiumlaw49.RecordSlots': WHATEVER THE INPUT: true; the input reads as it did. -/
def recordSlotsSpec : ChangeSpec := { name := "recordSlots", fn := fun _ => fun
  | [d1, d2, d3, d4] => { results := [.lit (.bool true)], args := [d1, d2, d3, d4] }
  | _ => none }
def recordSlotsRow : OpenClaim := { program := "ytahdhdgglbcagaa", sum := "9be48020a7fa8c4cb6a8f1d8a8fb54902a1541bfd571d9282d987bcafe413528", func := "podium/podiumlaw49.RecordSlots", spec := "recordSlots", inPlace := ["slices.overlaps[podium/api.Event]"], unfollowed := true, recurses := true, plainKeys := false, apart := false }
def RecordSlotsSaid : Prop := recordSlotsRow.holds Try.pinned (OpenSpec.ofChange recordSlotsSpec)

/-- ITS FALSE NEIGHBOUR: 'it returns false'. Refute it at one input. -/
def recordSlotsWrong : ChangeSpec := { name := "recordSlots", fn := fun _ => fun
  | [d1, d2, d3, d4] => { results := [.lit (.bool false)], args := [d1, d2, d3, d4] }
  | _ => none }
def RecordSlotsWrongFalsely : Prop := recordSlotsRow.holds Try.pinned (OpenSpec.ofChange recordSlotsWrong)

/- THE SECOND FORM. 'bulk': how many values and letters a reading holds, each counted each time it is reached (what is shared counts as often as it is met; a slice's spare places count too). A statement '..UptoSaid' is the law's where the arguments, and the package variables that the reading takes, are together of bulk at most 1048576: NARROWER than '..Said'. Prove '..Said' where nothing that the law and all that it calls make is longer than what came in: it says more and counts as full. Else prove '..UptoSaid'. A law counts once. -/
mutual
def uptoBulk {H : Type} : DataW H → Nat
  | .lit (.string bytes) => bytes.length + 1
  | .lit _ => 1
  | .nil => 1
  | .ptr d => uptoBulk d + 1
  | .slice elems spare => uptoBulkAll elems + uptoBulkAll spare + 1
  | .agg parts => uptoBulkAll parts + 1
  | .iface _ d => uptoBulk d + 1
  | .map entries => uptoBulkEntries entries + 1
  | .held _ => 1
def uptoBulkAll {H : Type} : List (DataW H) → Nat
  | [] => 0
  | d :: r => uptoBulk d + uptoBulkAll r
def uptoBulkEntries {H : Type} : List (Lit × DataW H) → Nat
  | [] => 0
  | x :: r => uptoBulkEntry x + uptoBulkEntries r
def uptoBulkEntry {H : Type} : Lit × DataW H → Nat
  | (.string bytes, d) => bytes.length + uptoBulk d + 1
  | (_, d) => uptoBulk d + 1
 end
def uptoSmall : (H : Type) → List (DataW H) → Bool := fun _ ds => decide (uptoBulkAll ds ≤ 1048576)
def OpenSpec.upto (s : _root_.Go.ChangeSpec) : _root_.Go.OpenSpec := { _root_.Go.OpenSpec.ofChange s with cond := some uptoSmall }

/-- 'podiumlaw49.RecordSpec', WHERE WHAT IT READS IS OF BULK AT MOST 1048576: true; the input reads as it did. -/
def recordSpecUptoRow : OpenClaim := { program := "ytahdhdgglbcagaa", sum := "9be48020a7fa8c4cb6a8f1d8a8fb54902a1541bfd571d9282d987bcafe413528", func := "podium/podiumlaw49.RecordSpec", spec := "recordSpec", inPlace := ["slices.overlaps[podium/api.Event]"], unfollowed := true, recurses := true, plainKeys := false, apart := false, narrowed := true }
def RecordSpecUptoSaid : Prop := recordSpecUptoRow.holds Try.pinned (OpenSpec.upto recordSpecSpec)

/-- 'podiumlaw49.RecordStandingSpec', WHERE WHAT IT READS IS OF BULK AT MOST 1048576: true; the input reads as it did. -/
def recordStandingSpecUptoRow : OpenClaim := { program := "ytahdhdgglbcagaa", sum := "9be48020a7fa8c4cb6a8f1d8a8fb54902a1541bfd571d9282d987bcafe413528", func := "podium/podiumlaw49.RecordStandingSpec", spec := "recordStandingSpec", inPlace := ["slices.overlaps[podium/api.Event]"], unfollowed := true, recurses := true, plainKeys := false, apart := false, narrowed := true }
def RecordStandingSpecUptoSaid : Prop := recordStandingSpecUptoRow.holds Try.pinned (OpenSpec.upto recordStandingSpecSpec)

/-- 'podiumlaw49.RecordOne', WHERE WHAT IT READS IS OF BULK AT MOST 1048576: true; the input reads as it did. -/
def recordOneUptoRow : OpenClaim := { program := "ytahdhdgglbcagaa", sum := "9be48020a7fa8c4cb6a8f1d8a8fb54902a1541bfd571d9282d987bcafe413528", func := "podium/podiumlaw49.RecordOne", spec := "recordOne", inPlace := ["slices.overlaps[podium/api.Event]"], unfollowed := true, recurses := true, plainKeys := false, apart := false, narrowed := true }
def RecordOneUptoSaid : Prop := recordOneUptoRow.holds Try.pinned (OpenSpec.upto recordOneSpec)

/-- 'podiumlaw49.RecordOrder', WHERE WHAT IT READS IS OF BULK AT MOST 1048576: true; the input reads as it did. -/
def recordOrderUptoRow : OpenClaim := { program := "ytahdhdgglbcagaa", sum := "9be48020a7fa8c4cb6a8f1d8a8fb54902a1541bfd571d9282d987bcafe413528", func := "podium/podiumlaw49.RecordOrder", spec := "recordOrder", inPlace := ["slices.overlaps[podium/api.Event]"], unfollowed := true, recurses := true, plainKeys := false, apart := false, narrowed := true }
def RecordOrderUptoSaid : Prop := recordOrderUptoRow.holds Try.pinned (OpenSpec.upto recordOrderSpec)

/-- 'podiumlaw49.RecordLater', WHERE WHAT IT READS IS OF BULK AT MOST 1048576: true; the input reads as it did. -/
def recordLaterUptoRow : OpenClaim := { program := "ytahdhdgglbcagaa", sum := "9be48020a7fa8c4cb6a8f1d8a8fb54902a1541bfd571d9282d987bcafe413528", func := "podium/podiumlaw49.RecordLater", spec := "recordLater", inPlace := ["slices.overlaps[podium/api.Event]"], unfollowed := true, recurses := true, plainKeys := false, apart := false, narrowed := true }
def RecordLaterUptoSaid : Prop := recordLaterUptoRow.holds Try.pinned (OpenSpec.upto recordLaterSpec)

/-- 'podiumlaw49.RecordSlots', WHERE WHAT IT READS IS OF BULK AT MOST 1048576: true; the input reads as it did. -/
def recordSlotsUptoRow : OpenClaim := { program := "ytahdhdgglbcagaa", sum := "9be48020a7fa8c4cb6a8f1d8a8fb54902a1541bfd571d9282d987bcafe413528", func := "podium/podiumlaw49.RecordSlots", spec := "recordSlots", inPlace := ["slices.overlaps[podium/api.Event]"], unfollowed := true, recurses := true, plainKeys := false, apart := false, narrowed := true }
def RecordSlotsUptoSaid : Prop := recordSlotsUptoRow.holds Try.pinned (OpenSpec.upto recordSlotsSpec)

end Rows
end Go.Proofs.Ytahdhdgglbcagaa
