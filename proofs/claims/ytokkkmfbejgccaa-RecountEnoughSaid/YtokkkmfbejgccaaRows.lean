/-
  No cell of these rows narrows 'for every input' (looked for: loops, veiled, ifaces, maps, wideKeys, modest, calm, conditions, laid).
  DERIVED. THE GIVEN ROWS OF THIS SEAT. 4 by the template 'for every input the law returns true; each argument reads behind the call as it read before'; 0 by the template 'total and deterministic' (their statements: YtokkkmfbejgccaaTotals.lean).
  GIVEN WITH THE SEED: the statements are not yours to turn. If you find one false, say at which input.
  Laid BY PROGRAM, IN A SANDBOX (cutbox-rows.mjs): the forced cells as the released guide's own fill.sh prints them over the translation e179a4799b7bbf87… (all of the seat's roots in one cut). By AI agents, Wed Nov 11 2026. No macro, syntax, notation, axiom, sorry.
-/
import Derived.Test.YtokkkmfbejgccaaChecked
import GoSem.Claim
import GoSem.ClaimJoined
import GoSem.ClaimMapViews
import Derived.JoinedTies
import Derived.KernelRfl
namespace Go.Proofs.Ytokkkmfbejgccaa
/- THE CELL 'sum', in the pinned program and in every row, IS THE sha256 OF THE DUMP (.gsa) THAT YtokkkmfbejgccaaProg.lean LOADS. Nothing in Lean hashes anything: it is a label: what it is worth is what the hold of that sum in a sandbox is worth. -/
noncomputable def Try.pinned : Pinned := { name := "ytokkkmfbejgccaa", sum := "e179a4799b7bbf878682324bf01a2aa17ab422bac0f153bc8d184ecc5f5e0f3b", checked := Try.checked }
namespace Rows
def none {H : Type} : Left H := { results := [], args := [] }

/-- 'podiumlaw57.RecountEnough': WHATEVER THE INPUT: true; the input reads as it did. -/
def recountEnoughSpec : ChangeSpec := { name := "recountEnough", fn := fun _ => fun
  | [d1, d2, d3, d4, d5] => { results := [.lit (.bool true)], args := [d1, d2, d3, d4, d5] }
  | _ => none }
def recountEnoughRow : OpenClaim := { program := "ytokkkmfbejgccaa", sum := "e179a4799b7bbf878682324bf01a2aa17ab422bac0f153bc8d184ecc5f5e0f3b", func := "podium/podiumlaw57.RecountEnough", spec := "recountEnough", unfollowed := true, recurses := true, apart := false }
def RecountEnoughSaid : Prop := recountEnoughRow.holds Try.pinned (OpenSpec.ofChange recountEnoughSpec)

/-- ITS FALSE NEIGHBOUR: 'it returns false'. Refute it at one input. -/
def recountEnoughWrong : ChangeSpec := { name := "recountEnough", fn := fun _ => fun
  | [d1, d2, d3, d4, d5] => { results := [.lit (.bool false)], args := [d1, d2, d3, d4, d5] }
  | _ => none }
def RecountEnoughWrongFalsely : Prop := recountEnoughRow.holds Try.pinned (OpenSpec.ofChange recountEnoughWrong)

/-- 'podiumlaw57.RecountSteps': WHATEVER THE INPUT: true; the input reads as it did. -/
def recountStepsSpec : ChangeSpec := { name := "recountSteps", fn := fun _ => fun
  | [d1, d2, d3, d4] => { results := [.lit (.bool true)], args := [d1, d2, d3, d4] }
  | _ => none }
def recountStepsRow : OpenClaim := { program := "ytokkkmfbejgccaa", sum := "e179a4799b7bbf878682324bf01a2aa17ab422bac0f153bc8d184ecc5f5e0f3b", func := "podium/podiumlaw57.RecountSteps", spec := "recountSteps", unfollowed := true, recurses := true, apart := false }
def RecountStepsSaid : Prop := recountStepsRow.holds Try.pinned (OpenSpec.ofChange recountStepsSpec)

/-- ITS FALSE NEIGHBOUR: 'it returns false'. Refute it at one input. -/
def recountStepsWrong : ChangeSpec := { name := "recountSteps", fn := fun _ => fun
  | [d1, d2, d3, d4] => { results := [.lit (.bool false)], args := [d1, d2, d3, d4] }
  | _ => none }
def RecountStepsWrongFalsely : Prop := recountStepsRow.holds Try.pinned (OpenSpec.ofChange recountStepsWrong)

/-- 'podiumlaw57.RecountAgreed': WHATEVER THE INPUT: true; the input reads as it did. -/
def recountAgreedSpec : ChangeSpec := { name := "recountAgreed", fn := fun _ => fun
  | [d1, d2, d3, d4, d5, d6] => { results := [.lit (.bool true)], args := [d1, d2, d3, d4, d5, d6] }
  | _ => none }
def recountAgreedRow : OpenClaim := { program := "ytokkkmfbejgccaa", sum := "e179a4799b7bbf878682324bf01a2aa17ab422bac0f153bc8d184ecc5f5e0f3b", func := "podium/podiumlaw57.RecountAgreed", spec := "recountAgreed", unfollowed := true, recurses := true, apart := false }
def RecountAgreedSaid : Prop := recountAgreedRow.holds Try.pinned (OpenSpec.ofChange recountAgreedSpec)

/-- ITS FALSE NEIGHBOUR: 'it returns false'. Refute it at one input. -/
def recountAgreedWrong : ChangeSpec := { name := "recountAgreed", fn := fun _ => fun
  | [d1, d2, d3, d4, d5, d6] => { results := [.lit (.bool false)], args := [d1, d2, d3, d4, d5, d6] }
  | _ => none }
def RecountAgreedWrongFalsely : Prop := recountAgreedRow.holds Try.pinned (OpenSpec.ofChange recountAgreedWrong)

/-- 'podiumlaw57.RecountRisk': WHATEVER THE INPUT: true; the input reads as it did. -/
def recountRiskSpec : ChangeSpec := { name := "recountRisk", fn := fun _ => fun
  | [d1, d2, d3, d4] => { results := [.lit (.bool true)], args := [d1, d2, d3, d4] }
  | _ => none }
def recountRiskRow : OpenClaim := { program := "ytokkkmfbejgccaa", sum := "e179a4799b7bbf878682324bf01a2aa17ab422bac0f153bc8d184ecc5f5e0f3b", func := "podium/podiumlaw57.RecountRisk", spec := "recountRisk", unfollowed := true, recurses := true, apart := false }
def RecountRiskSaid : Prop := recountRiskRow.holds Try.pinned (OpenSpec.ofChange recountRiskSpec)

/-- ITS FALSE NEIGHBOUR: 'it returns false'. Refute it at one input. -/
def recountRiskWrong : ChangeSpec := { name := "recountRisk", fn := fun _ => fun
  | [d1, d2, d3, d4] => { results := [.lit (.bool false)], args := [d1, d2, d3, d4] }
  | _ => none }
def RecountRiskWrongFalsely : Prop := recountRiskRow.holds Try.pinned (OpenSpec.ofChange recountRiskWrong)

/- THE SECOND FORM. 'bulk': how many values and letters a reading holds, each counted each time it is reached (what is shared counts as often as it is met; a slice's spare places count too). A statement '..UptoSaid' is the law's where the arguments, and the package variables that the reading takes, are together of bulk at most 1048576: NARROWER than '..Said'. Prove '..Said' where nothing that the law and all that it calls make is longer than what came in: it says more and counts as full. Else prove '..UptoSaid'. A law counts once. -/
mutual
def uptoBulk {H : Type} : DataW H → Nat
  | .lit (.string bytes) => bytes.length + 1
  | .lit _ => 1
  | .nil => 1
  | .ptr d => uptoBulk d + 1
  | .slice elems spare => uptoBulkAll elems + uptoBulkAll spare + 1
  | .agg parts => uptoBulkAll parts + 1
  | .iface _ d => uptoBulk d + 1
  | .map entries => uptoBulkEntries entries + 1
  | .held _ => 1
def uptoBulkAll {H : Type} : List (DataW H) → Nat
  | [] => 0
  | d :: r => uptoBulk d + uptoBulkAll r
def uptoBulkEntries {H : Type} : List (Lit × DataW H) → Nat
  | [] => 0
  | x :: r => uptoBulkEntry x + uptoBulkEntries r
def uptoBulkEntry {H : Type} : Lit × DataW H → Nat
  | (.string bytes, d) => bytes.length + uptoBulk d + 1
  | (_, d) => uptoBulk d + 1
 end
def uptoSmall : (H : Type) → List (DataW H) → Bool := fun _ ds => decide (uptoBulkAll ds ≤ 1048576)
def OpenSpec.upto (s : _root_.Go.ChangeSpec) : _root_.Go.OpenSpec := { _root_.Go.OpenSpec.ofChange s with cond := some uptoSmall }

/-- 'podiumlaw57.RecountEnough', WHERE WHAT IT READS IS OF BULK AT MOST 1048576: true; the input reads as it did. -/
def recountEnoughUptoRow : OpenClaim := { program := "ytokkkmfbejgccaa", sum := "e179a4799b7bbf878682324bf01a2aa17ab422bac0f153bc8d184ecc5f5e0f3b", func := "podium/podiumlaw57.RecountEnough", spec := "recountEnough", unfollowed := true, recurses := true, apart := false, narrowed := true }
def RecountEnoughUptoSaid : Prop := recountEnoughUptoRow.holds Try.pinned (OpenSpec.upto recountEnoughSpec)

/-- 'podiumlaw57.RecountSteps', WHERE WHAT IT READS IS OF BULK AT MOST 1048576: true; the input reads as it did. -/
def recountStepsUptoRow : OpenClaim := { program := "ytokkkmfbejgccaa", sum := "e179a4799b7bbf878682324bf01a2aa17ab422bac0f153bc8d184ecc5f5e0f3b", func := "podium/podiumlaw57.RecountSteps", spec := "recountSteps", unfollowed := true, recurses := true, apart := false, narrowed := true }
def RecountStepsUptoSaid : Prop := recountStepsUptoRow.holds Try.pinned (OpenSpec.upto recountStepsSpec)

/-- 'podiumlaw57.RecountAgreed', WHERE WHAT IT READS IS OF BULK AT MOST 1048576: true; the input reads as it did. -/
def recountAgreedUptoRow : OpenClaim := { program := "ytokkkmfbejgccaa", sum := "e179a4799b7bbf878682324bf01a2aa17ab422bac0f153bc8d184ecc5f5e0f3b", func := "podium/podiumlaw57.RecountAgreed", spec := "recountAgreed", unfollowed := true, recurses := true, apart := false, narrowed := true }
def RecountAgreedUptoSaid : Prop := recountAgreedUptoRow.holds Try.pinned (OpenSpec.upto recountAgreedSpec)

/-- 'podiumlaw57.RecountRisk', WHERE WHAT IT READS IS OF BULK AT MOST 1048576: true; the input reads as it did. -/
def recountRiskUptoRow : OpenClaim := { program := "ytokkkmfbejgccaa", sum := "e179a4799b7bbf878682324bf01a2aa17ab422bac0f153bc8d184ecc5f5e0f3b", func := "podium/podiumlaw57.RecountRisk", spec := "recountRisk", unfollowed := true, recurses := true, apart := false, narrowed := true }
def RecountRiskUptoSaid : Prop := recountRiskUptoRow.holds Try.pinned (OpenSpec.upto recountRiskSpec)

end Rows
end Go.Proofs.Ytokkkmfbejgccaa
