/-
  No cell of these rows narrows 'for every input' (looked for: loops, veiled, ifaces, maps, wideKeys, modest, calm, conditions, laid).
  DERIVED. THE GIVEN ROWS OF THIS SEAT. 5 by the template 'for every input the law returns true; each argument reads behind the call as it read before'; 0 by the template 'total and deterministic' (their statements: YtbjfmedpaohpnaaTotals.lean).
  GIVEN WITH THE SEED: the statements are not yours to turn. If you find one false, say at which input.
  Laid BY PROGRAM, IN A SANDBOX (cutbox-rows.mjs): the forced cells as the released guide's own fill.sh prints them over the translation 00fce84969990619… (all of the seat's roots in one cut). By AI agents, Wed Nov 11 2026. No macro, syntax, notation, axiom, sorry.
-/
import Derived.Test.YtbjfmedpaohpnaaChecked
import GoSem.Claim
import GoSem.ClaimJoined
import GoSem.ClaimMapViews
import Derived.JoinedTies
import Derived.KernelRfl
namespace Go.Proofs.Ytbjfmedpaohpnaa
/- THE CELL 'sum', in the pinned program and in every row, IS THE sha256 OF THE DUMP (.gsa) THAT YtbjfmedpaohpnaaProg.lean LOADS. Nothing in Lean hashes anything: it is a label: what it is worth is what the hold of that sum in a sandbox is worth. -/
noncomputable def Try.pinned : Pinned := { name := "ytbjfmedpaohpnaa", sum := "00fce849699906190a95857c529ce329ad133627f72fb20f4455bb0879fba220", checked := Try.checked }
namespace Rows
def none {H : Type} : Left H := { results := [], args := [] }

/-- 'podiumlaw44.ReviewsSpec': WHATEVER THE INPUT: true; the input reads as it did. -/
def reviewsSpecSpec : ChangeSpec := { name := "reviewsSpec", fn := fun _ => fun
  | [d1, d2] => { results := [.lit (.bool true)], args := [d1, d2] }
  | _ => none }
def reviewsSpecRow : OpenClaim := { program := "ytbjfmedpaohpnaa", sum := "00fce849699906190a95857c529ce329ad133627f72fb20f4455bb0879fba220", func := "podium/podiumlaw44.ReviewsSpec", spec := "reviewsSpec", inPlace := ["slices.overlaps[podium/api.Review]"], unfollowed := true, recurses := true, apart := false }
def ReviewsSpecSaid : Prop := reviewsSpecRow.holds Try.pinned (OpenSpec.ofChange reviewsSpecSpec)

/-- ITS FALSE NEIGHBOUR: 'it returns false'. Refute it at one input. -/
def reviewsSpecWrong : ChangeSpec := { name := "reviewsSpec", fn := fun _ => fun
  | [d1, d2] => { results := [.lit (.bool false)], args := [d1, d2] }
  | _ => none }
def ReviewsSpecWrongFalsely : Prop := reviewsSpecRow.holds Try.pinned (OpenSpec.ofChange reviewsSpecWrong)

/-- 'podiumlaw44.ReviewsDoSpec': WHATEVER THE INPUT: true; the input reads as it did. -/
def reviewsDoSpecSpec : ChangeSpec := { name := "reviewsDoSpec", fn := fun _ => fun
  | [d1, d2, d3, d4, d5] => { results := [.lit (.bool true)], args := [d1, d2, d3, d4, d5] }
  | _ => none }
def reviewsDoSpecRow : OpenClaim := { program := "ytbjfmedpaohpnaa", sum := "00fce849699906190a95857c529ce329ad133627f72fb20f4455bb0879fba220", func := "podium/podiumlaw44.ReviewsDoSpec", spec := "reviewsDoSpec", inPlace := ["slices.overlaps[podium/api.Review]"], unfollowed := true, recurses := true, apart := false }
def ReviewsDoSpecSaid : Prop := reviewsDoSpecRow.holds Try.pinned (OpenSpec.ofChange reviewsDoSpecSpec)

/-- ITS FALSE NEIGHBOUR: 'it returns false'. Refute it at one input. -/
def reviewsDoSpecWrong : ChangeSpec := { name := "reviewsDoSpec", fn := fun _ => fun
  | [d1, d2, d3, d4, d5] => { results := [.lit (.bool false)], args := [d1, d2, d3, d4, d5] }
  | _ => none }
def ReviewsDoSpecWrongFalsely : Prop := reviewsDoSpecRow.holds Try.pinned (OpenSpec.ofChange reviewsDoSpecWrong)

/-- 'podiumlaw44.ReviewsOnce': WHATEVER THE INPUT: true; the input reads as it did. -/
def reviewsOnceSpec : ChangeSpec := { name := "reviewsOnce", fn := fun _ => fun
  | [d1, d2] => { results := [.lit (.bool true)], args := [d1, d2] }
  | _ => none }
def reviewsOnceRow : OpenClaim := { program := "ytbjfmedpaohpnaa", sum := "00fce849699906190a95857c529ce329ad133627f72fb20f4455bb0879fba220", func := "podium/podiumlaw44.ReviewsOnce", spec := "reviewsOnce", inPlace := ["slices.overlaps[podium/api.Review]"], unfollowed := true, recurses := true, apart := false }
def ReviewsOnceSaid : Prop := reviewsOnceRow.holds Try.pinned (OpenSpec.ofChange reviewsOnceSpec)

/-- ITS FALSE NEIGHBOUR: 'it returns false'. Refute it at one input. -/
def reviewsOnceWrong : ChangeSpec := { name := "reviewsOnce", fn := fun _ => fun
  | [d1, d2] => { results := [.lit (.bool false)], args := [d1, d2] }
  | _ => none }
def ReviewsOnceWrongFalsely : Prop := reviewsOnceRow.holds Try.pinned (OpenSpec.ofChange reviewsOnceWrong)

/-- 'podiumlaw44.ReviewsApart': WHATEVER THE INPUT: true; the input reads as it did. -/
def reviewsApartSpec : ChangeSpec := { name := "reviewsApart", fn := fun _ => fun
  | [d1, d2, d3] => { results := [.lit (.bool true)], args := [d1, d2, d3] }
  | _ => none }
def reviewsApartRow : OpenClaim := { program := "ytbjfmedpaohpnaa", sum := "00fce849699906190a95857c529ce329ad133627f72fb20f4455bb0879fba220", func := "podium/podiumlaw44.ReviewsApart", spec := "reviewsApart", inPlace := ["slices.overlaps[podium/api.Review]"], unfollowed := true, recurses := true, apart := false }
def ReviewsApartSaid : Prop := reviewsApartRow.holds Try.pinned (OpenSpec.ofChange reviewsApartSpec)

/-- ITS FALSE NEIGHBOUR: 'it returns false'. Refute it at one input. -/
def reviewsApartWrong : ChangeSpec := { name := "reviewsApart", fn := fun _ => fun
  | [d1, d2, d3] => { results := [.lit (.bool false)], args := [d1, d2, d3] }
  | _ => none }
def ReviewsApartWrongFalsely : Prop := reviewsApartRow.holds Try.pinned (OpenSpec.ofChange reviewsApartWrong)

/-- 'podiumlaw44.ReviewsOrder': WHATEVER THE INPUT: true; the input reads as it did. -/
def reviewsOrderSpec : ChangeSpec := { name := "reviewsOrder", fn := fun _ => fun
  | [d1, d2, d3] => { results := [.lit (.bool true)], args := [d1, d2, d3] }
  | _ => none }
def reviewsOrderRow : OpenClaim := { program := "ytbjfmedpaohpnaa", sum := "00fce849699906190a95857c529ce329ad133627f72fb20f4455bb0879fba220", func := "podium/podiumlaw44.ReviewsOrder", spec := "reviewsOrder", inPlace := ["slices.overlaps[podium/api.Review]"], unfollowed := true, recurses := true, apart := false }
def ReviewsOrderSaid : Prop := reviewsOrderRow.holds Try.pinned (OpenSpec.ofChange reviewsOrderSpec)

/-- ITS FALSE NEIGHBOUR: 'it returns false'. Refute it at one input. -/
def reviewsOrderWrong : ChangeSpec := { name := "reviewsOrder", fn := fun _ => fun
  | [d1, d2, d3] => { results := [.lit (.bool false)], args := [d1, d2, d3] }
  | _ => none }
def ReviewsOrderWrongFalsely : Prop := reviewsOrderRow.holds Try.pinned (OpenSpec.ofChange reviewsOrderWrong)

/- THE SECOND FORM. 'bulk': how many values and letters a reading holds, each counted each time it is reached (what is shared counts as often as it is met; a slice's spare places count too). A statement '..UptoSaid' is the law's where the arguments, and the package variables that the reading takes, are together of bulk at most 1048576: NARROWER than '..Said'. Prove '..Said' where nothing that the law and all that it calls make is longer than what came in: it says more and counts as full. Else prove '..UptoSaid'. A law counts once. -/
mutual
def uptoBulk {H : Type} : DataW H → Nat
  | .lit (.string bytes) => bytes.length + 1
  | .lit _ => 1
  | .nil => 1
  | .ptr d => uptoBulk d + 1
  | .slice elems spare => uptoBulkAll elems + uptoBulkAll spare + 1
  | .agg parts => uptoBulkAll parts + 1
  | .iface _ d => uptoBulk d + 1
  | .map entries => uptoBulkEntries entries + 1
  | .held _ => 1
def uptoBulkAll {H : Type} : List (DataW H) → Nat
  | [] => 0
  | d :: r => uptoBulk d + uptoBulkAll r
def uptoBulkEntries {H : Type} : List (Lit × DataW H) → Nat
  | [] => 0
  | x :: r => uptoBulkEntry x + uptoBulkEntries r
def uptoBulkEntry {H : Type} : Lit × DataW H → Nat
  | (.string bytes, d) => bytes.length + uptoBulk d + 1
  | (_, d) => uptoBulk d + 1
 end
def uptoSmall : (H : Type) → List (DataW H) → Bool := fun _ ds => decide (uptoBulkAll ds ≤ 1048576)
def OpenSpec.upto (s : _root_.Go.ChangeSpec) : _root_.Go.OpenSpec := { _root_.Go.OpenSpec.ofChange s with cond := some uptoSmall }

/-- 'podiumlaw44.ReviewsSpec', WHERE WHAT IT READS IS OF BULK AT MOST 1048576: true; the input reads as it did. -/
def reviewsSpecUptoRow : OpenClaim := { program := "ytbjfmedpaohpnaa", sum := "00fce849699906190a95857c529ce329ad133627f72fb20f4455bb0879fba220", func := "podium/podiumlaw44.ReviewsSpec", spec := "reviewsSpec", inPlace := ["slices.overlaps[podium/api.Review]"], unfollowed := true, recurses := true, apart := false, narrowed := true }
def ReviewsSpecUptoSaid : Prop := reviewsSpecUptoRow.holds Try.pinned (OpenSpec.upto reviewsSpecSpec)

/-- 'podiumlaw44.ReviewsDoSpec', WHERE WHAT IT READS IS OF BULK AT MOST 1048576: true; the input reads as it did. -/
def reviewsDoSpecUptoRow : OpenClaim := { program := "ytbjfmedpaohpnaa", sum := "00fce849699906190a95857c529ce329ad133627f72fb20f4455bb0879fba220", func := "podium/podiumlaw44.ReviewsDoSpec", spec := "reviewsDoSpec", inPlace := ["slices.overlaps[podium/api.Review]"], unfollowed := true, recurses := true, apart := false, narrowed := true }
def ReviewsDoSpecUptoSaid : Prop := reviewsDoSpecUptoRow.holds Try.pinned (OpenSpec.upto reviewsDoSpecSpec)

/-- 'podiumlaw44.ReviewsOnce', WHERE WHAT IT READS IS OF BULK AT MOST 1048576: true; the input reads as it did. -/
def reviewsOnceUptoRow : OpenClaim := { program := "ytbjfmedpaohpnaa", sum := "00fce849699906190a95857c529ce329ad133627f72fb20f4455bb0879fba220", func := "podium/podiumlaw44.ReviewsOnce", spec := "reviewsOnce", inPlace := ["slices.overlaps[podium/api.Review]"], unfollowed := true, recurses := true, apart := false, narrowed := true }
def ReviewsOnceUptoSaid : Prop := reviewsOnceUptoRow.holds Try.pinned (OpenSpec.upto reviewsOnceSpec)

/-- 'podiumlaw44.ReviewsApart', WHERE WHAT IT READS IS OF BULK AT MOST 1048576: true; the input reads as it did. -/
def reviewsApartUptoRow : OpenClaim := { program := "ytbjfmedpaohpnaa", sum := "00fce849699906190a95857c529ce329ad133627f72fb20f4455bb0879fba220", func := "podium/podiumlaw44.ReviewsApart", spec := "reviewsApart", inPlace := ["slices.overlaps[podium/api.Review]"], unfollowed := true, recurses := true, apart := false, narrowed := true }
def ReviewsApartUptoSaid : Prop := reviewsApartUptoRow.holds Try.pinned (OpenSpec.upto reviewsApartSpec)

/-- 'podiumlaw44.ReviewsOrder', WHERE WHAT IT READS IS OF BULK AT MOST 1048576: true; the input reads as it did. -/
def reviewsOrderUptoRow : OpenClaim := { program := "ytbjfmedpaohpnaa", sum := "00fce849699906190a95857c529ce329ad133627f72fb20f4455bb0879fba220", func := "podium/podiumlaw44.ReviewsOrder", spec := "reviewsOrder", inPlace := ["slices.overlaps[podium/api.Review]"], unfollowed := true, recurses := true, apart := false, narrowed := true }
def ReviewsOrderUptoSaid : Prop := reviewsOrderUptoRow.holds Try.pinned (OpenSpec.upto reviewsOrderSpec)

end Rows
end Go.Proofs.Ytbjfmedpaohpnaa
