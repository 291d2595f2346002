/-
  NARROWER THAN 'FOR EVERY INPUT', by the rows' own cells (each row's printed sentence says how): PartiesWorldSpec: loops.
  DERIVED. THE GIVEN ROWS OF THIS SEAT. 7 by the template 'for every input the law returns true; each argument reads behind the call as it read before'; 0 by the template 'total and deterministic' (their statements: YtmlmoaimjifpgaaGreatTotals.lean).
  GIVEN WITH THE SEED: the statements are not yours to turn. If you find one false, say at which input.
  Laid BY PROGRAM, IN A SANDBOX (cutbox-rows.mjs): the forced cells as the released guide's own fill.sh prints them over the translation 4844bd2262617f15… (all of the seat's roots in one cut). By AI agents, Wed Nov 11 2026. No macro, syntax, notation, axiom, sorry.
-/
import Derived.Test.YtmlmoaimjifpgaaGreatChecked
import GoSem.Claim
import GoSem.ClaimJoined
import GoSem.ClaimMapViews
import Derived.JoinedTies
import Derived.KernelRfl
namespace Go.Proofs.YtmlmoaimjifpgaaGreat
/- THE CELL 'sum', in the pinned program and in every row, IS THE sha256 OF THE DUMP (.gsa) THAT YtmlmoaimjifpgaaGreatProg.lean LOADS. Nothing in Lean hashes anything: it is a label: what it is worth is what the hold of that sum in a sandbox is worth. -/
noncomputable def Tryz.pinned : Pinned := { name := "ytmlmoaimjifpgaagreat", sum := "4844bd2262617f15050f36bbbe658e55209d3fb6eaebef6eec0b5a434a0543b0", checked := Tryz.checked }
namespace Rows
def none {H : Type} : Left H := { results := [], args := [] }

/-- 'podiumlaw58.PartiesSpec': WHATEVER THE INPUT: true; the input reads as it did. -/
def partiesSpecSpec : ChangeSpec := { name := "partiesSpec", fn := fun _ => fun
  | [d1, d2, d3] => { results := [.lit (.bool true)], args := [d1, d2, d3] }
  | _ => none }
def partiesSpecRow : OpenClaim := { program := "ytmlmoaimjifpgaagreat", sum := "4844bd2262617f15050f36bbbe658e55209d3fb6eaebef6eec0b5a434a0543b0", func := "podium/podiumlaw58.PartiesSpec", spec := "partiesSpec", inPlace := ["internal/bytealg.abigen_runtime_cmpstring", "slices.overlaps[podium/api.Note]"], unfollowed := true, recurses := true, apart := false }
def PartiesSpecSaid : Prop := partiesSpecRow.holds Tryz.pinned (OpenSpec.ofChange partiesSpecSpec)

/-- ITS FALSE NEIGHBOUR: 'it returns false'. Refute it at one input. -/
def partiesSpecWrong : ChangeSpec := { name := "partiesSpec", fn := fun _ => fun
  | [d1, d2, d3] => { results := [.lit (.bool false)], args := [d1, d2, d3] }
  | _ => none }
def PartiesSpecWrongFalsely : Prop := partiesSpecRow.holds Tryz.pinned (OpenSpec.ofChange partiesSpecWrong)

/-- 'podiumlaw58.PartiesWorldSpec': WHATEVER THE INPUT: true; the input reads as it did. -/
def partiesWorldSpecSpec : ChangeSpec := { name := "partiesWorldSpec", fn := fun _ => fun
  | [d1, d2, d3] => { results := [.lit (.bool true)], args := [d1, d2, d3] }
  | _ => none }
def partiesWorldSpecRow : OpenClaim := { program := "ytmlmoaimjifpgaagreat", sum := "4844bd2262617f15050f36bbbe658e55209d3fb6eaebef6eec0b5a434a0543b0", func := "podium/podiumlaw58.PartiesWorldSpec", spec := "partiesWorldSpec", inPlace := ["internal/bytealg.abigen_runtime_cmpstring", "slices.overlaps[podium/api.Note]"], unfollowed := true, recurses := true, loops := true, apart := false }
def PartiesWorldSpecSaid : Prop := partiesWorldSpecRow.holds Tryz.pinned (OpenSpec.ofChange partiesWorldSpecSpec)

/-- ITS FALSE NEIGHBOUR: 'it returns false'. Refute it at one input. -/
def partiesWorldSpecWrong : ChangeSpec := { name := "partiesWorldSpec", fn := fun _ => fun
  | [d1, d2, d3] => { results := [.lit (.bool false)], args := [d1, d2, d3] }
  | _ => none }
def PartiesWorldSpecWrongFalsely : Prop := partiesWorldSpecRow.holds Tryz.pinned (OpenSpec.ofChange partiesWorldSpecWrong)

/-- 'podiumlaw58.PartiesConverge': WHATEVER THE INPUT: true; the input reads as it did. -/
def partiesConvergeSpec : ChangeSpec := { name := "partiesConverge", fn := fun _ => fun
  | [d1, d2, d3] => { results := [.lit (.bool true)], args := [d1, d2, d3] }
  | _ => none }
def partiesConvergeRow : OpenClaim := { program := "ytmlmoaimjifpgaagreat", sum := "4844bd2262617f15050f36bbbe658e55209d3fb6eaebef6eec0b5a434a0543b0", func := "podium/podiumlaw58.PartiesConverge", spec := "partiesConverge", inPlace := ["internal/bytealg.abigen_runtime_cmpstring", "slices.overlaps[podium/api.Note]"], unfollowed := true, recurses := true, apart := false }
def PartiesConvergeSaid : Prop := partiesConvergeRow.holds Tryz.pinned (OpenSpec.ofChange partiesConvergeSpec)

/-- ITS FALSE NEIGHBOUR: 'it returns false'. Refute it at one input. -/
def partiesConvergeWrong : ChangeSpec := { name := "partiesConverge", fn := fun _ => fun
  | [d1, d2, d3] => { results := [.lit (.bool false)], args := [d1, d2, d3] }
  | _ => none }
def PartiesConvergeWrongFalsely : Prop := partiesConvergeRow.holds Tryz.pinned (OpenSpec.ofChange partiesConvergeWrong)

/-- 'podiumlaw58.PartiesKnown': WHATEVER THE INPUT: true; the input reads as it did. -/
def partiesKnownSpec : ChangeSpec := { name := "partiesKnown", fn := fun _ => fun
  | [d1, d2] => { results := [.lit (.bool true)], args := [d1, d2] }
  | _ => none }
def partiesKnownRow : OpenClaim := { program := "ytmlmoaimjifpgaagreat", sum := "4844bd2262617f15050f36bbbe658e55209d3fb6eaebef6eec0b5a434a0543b0", func := "podium/podiumlaw58.PartiesKnown", spec := "partiesKnown", inPlace := ["internal/bytealg.abigen_runtime_cmpstring", "slices.overlaps[podium/api.Note]"], unfollowed := true, recurses := true, apart := false }
def PartiesKnownSaid : Prop := partiesKnownRow.holds Tryz.pinned (OpenSpec.ofChange partiesKnownSpec)

/-- ITS FALSE NEIGHBOUR: 'it returns false'. Refute it at one input. -/
def partiesKnownWrong : ChangeSpec := { name := "partiesKnown", fn := fun _ => fun
  | [d1, d2] => { results := [.lit (.bool false)], args := [d1, d2] }
  | _ => none }
def PartiesKnownWrongFalsely : Prop := partiesKnownRow.holds Tryz.pinned (OpenSpec.ofChange partiesKnownWrong)

/-- 'podiumlaw58.PartiesOrder': WHATEVER THE INPUT: true; the input reads as it did. -/
def partiesOrderSpec : ChangeSpec := { name := "partiesOrder", fn := fun _ => fun
  | [d1, d2, d3] => { results := [.lit (.bool true)], args := [d1, d2, d3] }
  | _ => none }
def partiesOrderRow : OpenClaim := { program := "ytmlmoaimjifpgaagreat", sum := "4844bd2262617f15050f36bbbe658e55209d3fb6eaebef6eec0b5a434a0543b0", func := "podium/podiumlaw58.PartiesOrder", spec := "partiesOrder", inPlace := ["internal/bytealg.abigen_runtime_cmpstring", "slices.overlaps[podium/api.Note]"], unfollowed := true, recurses := true, apart := false }
def PartiesOrderSaid : Prop := partiesOrderRow.holds Tryz.pinned (OpenSpec.ofChange partiesOrderSpec)

/-- ITS FALSE NEIGHBOUR: 'it returns false'. Refute it at one input. -/
def partiesOrderWrong : ChangeSpec := { name := "partiesOrder", fn := fun _ => fun
  | [d1, d2, d3] => { results := [.lit (.bool false)], args := [d1, d2, d3] }
  | _ => none }
def PartiesOrderWrongFalsely : Prop := partiesOrderRow.holds Tryz.pinned (OpenSpec.ofChange partiesOrderWrong)

/-- 'podiumlaw58.PartiesWorld': WHATEVER THE INPUT: true; the input reads as it did. -/
def partiesWorldSpec : ChangeSpec := { name := "partiesWorld", fn := fun _ => fun
  | [d] => { results := [.lit (.bool true)], args := [d] }
  | _ => none }
def partiesWorldRow : OpenClaim := { program := "ytmlmoaimjifpgaagreat", sum := "4844bd2262617f15050f36bbbe658e55209d3fb6eaebef6eec0b5a434a0543b0", func := "podium/podiumlaw58.PartiesWorld", spec := "partiesWorld", inPlace := ["internal/bytealg.abigen_runtime_cmpstring", "slices.overlaps[podium/api.Note]"], unfollowed := true, recurses := true, apart := false }
def PartiesWorldSaid : Prop := partiesWorldRow.holds Tryz.pinned (OpenSpec.ofChange partiesWorldSpec)

/-- ITS FALSE NEIGHBOUR: 'it returns false'. Refute it at one input. -/
def partiesWorldWrong : ChangeSpec := { name := "partiesWorld", fn := fun _ => fun
  | [d] => { results := [.lit (.bool false)], args := [d] }
  | _ => none }
def PartiesWorldWrongFalsely : Prop := partiesWorldRow.holds Tryz.pinned (OpenSpec.ofChange partiesWorldWrong)

/-- 'podiumlaw58.PartiesKept': WHATEVER THE INPUT: true; the input reads as it did. -/
def partiesKeptSpec : ChangeSpec := { name := "partiesKept", fn := fun _ => fun
  | [d1, d2, d3] => { results := [.lit (.bool true)], args := [d1, d2, d3] }
  | _ => none }
def partiesKeptRow : OpenClaim := { program := "ytmlmoaimjifpgaagreat", sum := "4844bd2262617f15050f36bbbe658e55209d3fb6eaebef6eec0b5a434a0543b0", func := "podium/podiumlaw58.PartiesKept", spec := "partiesKept", inPlace := ["internal/bytealg.abigen_runtime_cmpstring", "slices.overlaps[podium/api.Note]"], unfollowed := true, recurses := true, apart := false }
def PartiesKeptSaid : Prop := partiesKeptRow.holds Tryz.pinned (OpenSpec.ofChange partiesKeptSpec)

/-- ITS FALSE NEIGHBOUR: 'it returns false'. Refute it at one input. -/
def partiesKeptWrong : ChangeSpec := { name := "partiesKept", fn := fun _ => fun
  | [d1, d2, d3] => { results := [.lit (.bool false)], args := [d1, d2, d3] }
  | _ => none }
def PartiesKeptWrongFalsely : Prop := partiesKeptRow.holds Tryz.pinned (OpenSpec.ofChange partiesKeptWrong)

/- THE SECOND FORM. 'bulk': how many values and letters a reading holds, each counted each time it is reached (what is shared counts as often as it is met; a slice's spare places count too). A statement '..UptoSaid' is the law's where the arguments, and the package variables that the reading takes, are together of bulk at most 1048576: NARROWER than '..Said'. Prove '..Said' where nothing that the law and all that it calls make is longer than what came in: it says more and counts as full. Else prove '..UptoSaid'. A law counts once. -/
mutual
def uptoBulk {H : Type} : DataW H → Nat
  | .lit (.string bytes) => bytes.length + 1
  | .lit _ => 1
  | .nil => 1
  | .ptr d => uptoBulk d + 1
  | .slice elems spare => uptoBulkAll elems + uptoBulkAll spare + 1
  | .agg parts => uptoBulkAll parts + 1
  | .iface _ d => uptoBulk d + 1
  | .map entries => uptoBulkEntries entries + 1
  | .held _ => 1
def uptoBulkAll {H : Type} : List (DataW H) → Nat
  | [] => 0
  | d :: r => uptoBulk d + uptoBulkAll r
def uptoBulkEntries {H : Type} : List (Lit × DataW H) → Nat
  | [] => 0
  | x :: r => uptoBulkEntry x + uptoBulkEntries r
def uptoBulkEntry {H : Type} : Lit × DataW H → Nat
  | (.string bytes, d) => bytes.length + uptoBulk d + 1
  | (_, d) => uptoBulk d + 1
 end
def uptoSmall : (H : Type) → List (DataW H) → Bool := fun _ ds => decide (uptoBulkAll ds ≤ 1048576)
def OpenSpec.upto (s : _root_.Go.ChangeSpec) : _root_.Go.OpenSpec := { _root_.Go.OpenSpec.ofChange s with cond := some uptoSmall }

/-- 'podiumlaw58.PartiesSpec', WHERE WHAT IT READS IS OF BULK AT MOST 1048576: true; the input reads as it did. -/
def partiesSpecUptoRow : OpenClaim := { program := "ytmlmoaimjifpgaagreat", sum := "4844bd2262617f15050f36bbbe658e55209d3fb6eaebef6eec0b5a434a0543b0", func := "podium/podiumlaw58.PartiesSpec", spec := "partiesSpec", inPlace := ["internal/bytealg.abigen_runtime_cmpstring", "slices.overlaps[podium/api.Note]"], unfollowed := true, recurses := true, apart := false, narrowed := true }
def PartiesSpecUptoSaid : Prop := partiesSpecUptoRow.holds Tryz.pinned (OpenSpec.upto partiesSpecSpec)

/-- 'podiumlaw58.PartiesWorldSpec', WHERE WHAT IT READS IS OF BULK AT MOST 1048576: true; the input reads as it did. -/
def partiesWorldSpecUptoRow : OpenClaim := { program := "ytmlmoaimjifpgaagreat", sum := "4844bd2262617f15050f36bbbe658e55209d3fb6eaebef6eec0b5a434a0543b0", func := "podium/podiumlaw58.PartiesWorldSpec", spec := "partiesWorldSpec", inPlace := ["internal/bytealg.abigen_runtime_cmpstring", "slices.overlaps[podium/api.Note]"], unfollowed := true, recurses := true, loops := true, apart := false, narrowed := true }
def PartiesWorldSpecUptoSaid : Prop := partiesWorldSpecUptoRow.holds Tryz.pinned (OpenSpec.upto partiesWorldSpecSpec)

/-- 'podiumlaw58.PartiesConverge', WHERE WHAT IT READS IS OF BULK AT MOST 1048576: true; the input reads as it did. -/
def partiesConvergeUptoRow : OpenClaim := { program := "ytmlmoaimjifpgaagreat", sum := "4844bd2262617f15050f36bbbe658e55209d3fb6eaebef6eec0b5a434a0543b0", func := "podium/podiumlaw58.PartiesConverge", spec := "partiesConverge", inPlace := ["internal/bytealg.abigen_runtime_cmpstring", "slices.overlaps[podium/api.Note]"], unfollowed := true, recurses := true, apart := false, narrowed := true }
def PartiesConvergeUptoSaid : Prop := partiesConvergeUptoRow.holds Tryz.pinned (OpenSpec.upto partiesConvergeSpec)

/-- 'podiumlaw58.PartiesKnown', WHERE WHAT IT READS IS OF BULK AT MOST 1048576: true; the input reads as it did. -/
def partiesKnownUptoRow : OpenClaim := { program := "ytmlmoaimjifpgaagreat", sum := "4844bd2262617f15050f36bbbe658e55209d3fb6eaebef6eec0b5a434a0543b0", func := "podium/podiumlaw58.PartiesKnown", spec := "partiesKnown", inPlace := ["internal/bytealg.abigen_runtime_cmpstring", "slices.overlaps[podium/api.Note]"], unfollowed := true, recurses := true, apart := false, narrowed := true }
def PartiesKnownUptoSaid : Prop := partiesKnownUptoRow.holds Tryz.pinned (OpenSpec.upto partiesKnownSpec)

/-- 'podiumlaw58.PartiesOrder', WHERE WHAT IT READS IS OF BULK AT MOST 1048576: true; the input reads as it did. -/
def partiesOrderUptoRow : OpenClaim := { program := "ytmlmoaimjifpgaagreat", sum := "4844bd2262617f15050f36bbbe658e55209d3fb6eaebef6eec0b5a434a0543b0", func := "podium/podiumlaw58.PartiesOrder", spec := "partiesOrder", inPlace := ["internal/bytealg.abigen_runtime_cmpstring", "slices.overlaps[podium/api.Note]"], unfollowed := true, recurses := true, apart := false, narrowed := true }
def PartiesOrderUptoSaid : Prop := partiesOrderUptoRow.holds Tryz.pinned (OpenSpec.upto partiesOrderSpec)

/-- 'podiumlaw58.PartiesWorld', WHERE WHAT IT READS IS OF BULK AT MOST 1048576: true; the input reads as it did. -/
def partiesWorldUptoRow : OpenClaim := { program := "ytmlmoaimjifpgaagreat", sum := "4844bd2262617f15050f36bbbe658e55209d3fb6eaebef6eec0b5a434a0543b0", func := "podium/podiumlaw58.PartiesWorld", spec := "partiesWorld", inPlace := ["internal/bytealg.abigen_runtime_cmpstring", "slices.overlaps[podium/api.Note]"], unfollowed := true, recurses := true, apart := false, narrowed := true }
def PartiesWorldUptoSaid : Prop := partiesWorldUptoRow.holds Tryz.pinned (OpenSpec.upto partiesWorldSpec)

/-- 'podiumlaw58.PartiesKept', WHERE WHAT IT READS IS OF BULK AT MOST 1048576: true; the input reads as it did. -/
def partiesKeptUptoRow : OpenClaim := { program := "ytmlmoaimjifpgaagreat", sum := "4844bd2262617f15050f36bbbe658e55209d3fb6eaebef6eec0b5a434a0543b0", func := "podium/podiumlaw58.PartiesKept", spec := "partiesKept", inPlace := ["internal/bytealg.abigen_runtime_cmpstring", "slices.overlaps[podium/api.Note]"], unfollowed := true, recurses := true, apart := false, narrowed := true }
def PartiesKeptUptoSaid : Prop := partiesKeptUptoRow.holds Tryz.pinned (OpenSpec.upto partiesKeptSpec)

end Rows
end Go.Proofs.YtmlmoaimjifpgaaGreat
