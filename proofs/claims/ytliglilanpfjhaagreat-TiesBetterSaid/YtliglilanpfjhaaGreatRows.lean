/-
  No cell of these rows narrows 'for every input' (looked for: loops, veiled, ifaces, maps, wideKeys, modest, calm, conditions, laid).
  DERIVED. THE GIVEN ROWS OF THIS SEAT. 3 by the template 'for every input the law returns true; each argument reads behind the call as it read before'; 0 by the template 'total and deterministic' (their statements: YtliglilanpfjhaaGreatTotals.lean).
  GIVEN WITH THE SEED: the statements are not yours to turn. If you find one false, say at which input.
  Laid BY PROGRAM, IN A SANDBOX (cutbox-rows.mjs): the forced cells as the released guide's own fill.sh prints them over the translation b00c9749f24837f2… (all of the seat's roots in one cut). By AI agents, Wed Nov 11 2026. No macro, syntax, notation, axiom, sorry.
-/
import Derived.Test.YtliglilanpfjhaaGreatChecked
import GoSem.Claim
import GoSem.ClaimJoined
import GoSem.ClaimMapViews
import Derived.JoinedTies
import Derived.KernelRfl
namespace Go.Proofs.YtliglilanpfjhaaGreat
/- THE CELL 'sum', in the pinned program and in every row, IS THE sha256 OF THE DUMP (.gsa) THAT YtliglilanpfjhaaGreatProg.lean LOADS. Nothing in Lean hashes anything: it is a label: what it is worth is what the hold of that sum in a sandbox is worth. -/
noncomputable def Tryz.pinned : Pinned := { name := "ytliglilanpfjhaagreat", sum := "b00c9749f24837f212549c338bcdaff126906d3e96471665b30658199206278e", checked := Tryz.checked }
namespace Rows
def none {H : Type} : Left H := { results := [], args := [] }

/-- 'podiumlaw21.TiesSpec': WHATEVER THE INPUT: true; the input reads as it did. -/
def tiesSpecSpec : ChangeSpec := { name := "tiesSpec", fn := fun _ => fun
  | [d1, d2, d3] => { results := [.lit (.bool true)], args := [d1, d2, d3] }
  | _ => none }
def tiesSpecRow : OpenClaim := { program := "ytliglilanpfjhaagreat", sum := "b00c9749f24837f212549c338bcdaff126906d3e96471665b30658199206278e", func := "podium/podiumlaw21.TiesSpec", spec := "tiesSpec", unfollowed := true, recurses := true, apart := false }
def TiesSpecSaid : Prop := tiesSpecRow.holds Tryz.pinned (OpenSpec.ofChange tiesSpecSpec)

/-- ITS FALSE NEIGHBOUR: 'it returns false'. Refute it at one input. -/
def tiesSpecWrong : ChangeSpec := { name := "tiesSpec", fn := fun _ => fun
  | [d1, d2, d3] => { results := [.lit (.bool false)], args := [d1, d2, d3] }
  | _ => none }
def TiesSpecWrongFalsely : Prop := tiesSpecRow.holds Tryz.pinned (OpenSpec.ofChange tiesSpecWrong)

/-- 'podiumlaw21.TiesSortSpec': WHATEVER THE INPUT: true; the input reads as it did. -/
def tiesSortSpecSpec : ChangeSpec := { name := "tiesSortSpec", fn := fun _ => fun
  | [d1, d2] => { results := [.lit (.bool true)], args := [d1, d2] }
  | _ => none }
def tiesSortSpecRow : OpenClaim := { program := "ytliglilanpfjhaagreat", sum := "b00c9749f24837f212549c338bcdaff126906d3e96471665b30658199206278e", func := "podium/podiumlaw21.TiesSortSpec", spec := "tiesSortSpec", unfollowed := true, recurses := true, apart := false }
def TiesSortSpecSaid : Prop := tiesSortSpecRow.holds Tryz.pinned (OpenSpec.ofChange tiesSortSpecSpec)

/-- ITS FALSE NEIGHBOUR: 'it returns false'. Refute it at one input. -/
def tiesSortSpecWrong : ChangeSpec := { name := "tiesSortSpec", fn := fun _ => fun
  | [d1, d2] => { results := [.lit (.bool false)], args := [d1, d2] }
  | _ => none }
def TiesSortSpecWrongFalsely : Prop := tiesSortSpecRow.holds Tryz.pinned (OpenSpec.ofChange tiesSortSpecWrong)

/-- 'podiumlaw21.TiesBetter': WHATEVER THE INPUT: true; the input reads as it did. -/
def tiesBetterSpec : ChangeSpec := { name := "tiesBetter", fn := fun _ => fun
  | [d1, d2, d3, d4, d5, d6] => { results := [.lit (.bool true)], args := [d1, d2, d3, d4, d5, d6] }
  | _ => none }
def tiesBetterRow : OpenClaim := { program := "ytliglilanpfjhaagreat", sum := "b00c9749f24837f212549c338bcdaff126906d3e96471665b30658199206278e", func := "podium/podiumlaw21.TiesBetter", spec := "tiesBetter", unfollowed := true, recurses := true, apart := false }
def TiesBetterSaid : Prop := tiesBetterRow.holds Tryz.pinned (OpenSpec.ofChange tiesBetterSpec)

/-- ITS FALSE NEIGHBOUR: 'it returns false'. Refute it at one input. -/
def tiesBetterWrong : ChangeSpec := { name := "tiesBetter", fn := fun _ => fun
  | [d1, d2, d3, d4, d5, d6] => { results := [.lit (.bool false)], args := [d1, d2, d3, d4, d5, d6] }
  | _ => none }
def TiesBetterWrongFalsely : Prop := tiesBetterRow.holds Tryz.pinned (OpenSpec.ofChange tiesBetterWrong)

/- THE SECOND FORM. 'bulk': how many values and letters a reading holds, each counted each time it is reached (what is shared counts as often as it is met; a slice's spare places count too). A statement '..UptoSaid' is the law's where the arguments, and the package variables that the reading takes, are together of bulk at most 1048576: NARROWER than '..Said'. Prove '..Said' where nothing that the law and all that it calls make is longer than what came in: it says more and counts as full. Else prove '..UptoSaid'. A law counts once. -/
mutual
def uptoBulk {H : Type} : DataW H → Nat
  | .lit (.string bytes) => bytes.length + 1
  | .lit _ => 1
  | .nil => 1
  | .ptr d => uptoBulk d + 1
  | .slice elems spare => uptoBulkAll elems + uptoBulkAll spare + 1
  | .agg parts => uptoBulkAll parts + 1
  | .iface _ d => uptoBulk d + 1
  | .map entries => uptoBulkEntries entries + 1
  | .held _ => 1
def uptoBulkAll {H : Type} : List (DataW H) → Nat
  | [] => 0
  | d :: r => uptoBulk d + uptoBulkAll r
def uptoBulkEntries {H : Type} : List (Lit × DataW H) → Nat
  | [] => 0
  | x :: r => uptoBulkEntry x + uptoBulkEntries r
def uptoBulkEntry {H : Type} : Lit × DataW H → Nat
  | (.string bytes, d) => bytes.length + uptoBulk d + 1
  | (_, d) => uptoBulk d + 1
 end
def uptoSmall : (H : Type) → List (DataW H) → Bool := fun _ ds => decide (uptoBulkAll ds ≤ 1048576)
def OpenSpec.upto (s : _root_.Go.ChangeSpec) : _root_.Go.OpenSpec := { _root_.Go.OpenSpec.ofChange s with cond := some uptoSmall }

/-- 'podiumlaw21.TiesSpec', WHERE WHAT IT READS IS OF BULK AT MOST 1048576: true; the input reads as it did. -/
def tiesSpecUptoRow : OpenClaim := { program := "ytliglilanpfjhaagreat", sum := "b00c9749f24837f212549c338bcdaff126906d3e96471665b30658199206278e", func := "podium/podiumlaw21.TiesSpec", spec := "tiesSpec", unfollowed := true, recurses := true, apart := false, narrowed := true }
def TiesSpecUptoSaid : Prop := tiesSpecUptoRow.holds Tryz.pinned (OpenSpec.upto tiesSpecSpec)

/-- 'podiumlaw21.TiesSortSpec', WHERE WHAT IT READS IS OF BULK AT MOST 1048576: true; the input reads as it did. -/
def tiesSortSpecUptoRow : OpenClaim := { program := "ytliglilanpfjhaagreat", sum := "b00c9749f24837f212549c338bcdaff126906d3e96471665b30658199206278e", func := "podium/podiumlaw21.TiesSortSpec", spec := "tiesSortSpec", unfollowed := true, recurses := true, apart := false, narrowed := true }
def TiesSortSpecUptoSaid : Prop := tiesSortSpecUptoRow.holds Tryz.pinned (OpenSpec.upto tiesSortSpecSpec)

/-- 'podiumlaw21.TiesBetter', WHERE WHAT IT READS IS OF BULK AT MOST 1048576: true; the input reads as it did. -/
def tiesBetterUptoRow : OpenClaim := { program := "ytliglilanpfjhaagreat", sum := "b00c9749f24837f212549c338bcdaff126906d3e96471665b30658199206278e", func := "podium/podiumlaw21.TiesBetter", spec := "tiesBetter", unfollowed := true, recurses := true, apart := false, narrowed := true }
def TiesBetterUptoSaid : Prop := tiesBetterUptoRow.holds Tryz.pinned (OpenSpec.upto tiesBetterSpec)

end Rows
end Go.Proofs.YtliglilanpfjhaaGreat
