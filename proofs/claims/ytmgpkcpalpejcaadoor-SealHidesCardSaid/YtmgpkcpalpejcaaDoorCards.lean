/-
  DERIVED. GIVEN WITH THE SEED: THE CARDS: each row of YtmgpkcpalpejcaaDoorRows.lean that lists a variable, with what it lists TIED to the program's text (the seventh form; the later family's looks); each row that meets fmt, with fmt's text TOLD by the authors' own Lean function (tested against real Go, not proved from fmt's source: count such statements apart). THE CARD IS WHAT COUNTS. Prove the row's statement (the work); the ties are given (YtmgpkcpalpejcaaDoorTie.lean); close each card by the builder's one call (the guide's Derived/Test/ToyasCard.lean, 'card_holds'). Laid BY PROGRAM, IN A SANDBOX (cutbox-door.mjs). By AI agents, Wed Nov 11 2026. No macro, syntax, notation, axiom, sorry.
-/
import Derived.Test.YtmgpkcpalpejcaaDoorRows
import GoSem.ClaimSeven
namespace Go.Proofs.YtmgpkcpalpejcaaDoor
namespace Rows

/-- THE TIED CARD OF 'podiumlaw34.SealSpec'. -/
def sealSpecCard : Claim7 := { stood := { row := sealSpecRow, standIns := [], harness := (true, "d2abd9f51b4b78c1a0fb9633ae591002b4af9bb67f497126ca344385c8fdadf5"), looks := true }, kinds := [], alts := [], laidByText := true, laidKinds := [.data, .data], laidTests := true, laidLooks := .later }
def SealSpecCardSaid : Prop := Claim7.holds Tryd.pinned (.plain (OpenSpec.ofChange sealSpecSpec)) sealSpecCard

/-- THE TIED CARD OF 'podiumlaw34.SealOpenSpec'. -/
def sealOpenSpecCard : Claim7 := { stood := { row := sealOpenSpecRow, standIns := [], harness := (true, "d2abd9f51b4b78c1a0fb9633ae591002b4af9bb67f497126ca344385c8fdadf5"), looks := true }, kinds := [], alts := [], laidByText := true, laidKinds := [.data, .data], laidTests := true, laidLooks := .later }
def SealOpenSpecCardSaid : Prop := Claim7.holds Tryd.pinned (.plain (OpenSpec.ofChange sealOpenSpecSpec)) sealOpenSpecCard

/-- THE TIED CARD OF 'podiumlaw34.SealBack'. -/
def sealBackCard : Claim7 := { stood := { row := sealBackRow, standIns := [], harness := (true, "d2abd9f51b4b78c1a0fb9633ae591002b4af9bb67f497126ca344385c8fdadf5"), looks := true }, kinds := [], alts := [], laidByText := true, laidKinds := [.data, .data], laidTests := true, laidLooks := .later }
def SealBackCardSaid : Prop := Claim7.holds Tryd.pinned (.plain (OpenSpec.ofChange sealBackSpec)) sealBackCard

/-- THE TIED CARD OF 'podiumlaw34.SealBound'. -/
def sealBoundCard : Claim7 := { stood := { row := sealBoundRow, standIns := [], harness := (true, "d2abd9f51b4b78c1a0fb9633ae591002b4af9bb67f497126ca344385c8fdadf5"), looks := true }, kinds := [], alts := [], laidByText := true, laidKinds := [.data, .data], laidTests := true, laidLooks := .later }
def SealBoundCardSaid : Prop := Claim7.holds Tryd.pinned (.plain (OpenSpec.ofChange sealBoundSpec)) sealBoundCard

/-- THE TIED CARD OF 'podiumlaw34.SealHides'. -/
def sealHidesCard : Claim7 := { stood := { row := sealHidesRow, standIns := [], harness := (true, "d2abd9f51b4b78c1a0fb9633ae591002b4af9bb67f497126ca344385c8fdadf5"), looks := true }, kinds := [], alts := [], laidByText := true, laidKinds := [.data, .data], laidTests := true, laidLooks := .later }
def SealHidesCardSaid : Prop := Claim7.holds Tryd.pinned (.plain (OpenSpec.ofChange sealHidesSpec)) sealHidesCard

/-- THE SECOND FORM's CARD OF 'podiumlaw34.SealSpec'. -/
def sealSpecUptoCard : Claim7 := { stood := { row := sealSpecUptoRow, standIns := [], harness := (true, "d2abd9f51b4b78c1a0fb9633ae591002b4af9bb67f497126ca344385c8fdadf5"), looks := true }, kinds := [], alts := [], laidByText := true, laidKinds := [.data, .data], laidTests := true, laidLooks := .later }
def SealSpecUptoCardSaid : Prop := Claim7.holds Tryd.pinned (.plain (OpenSpec.upto sealSpecSpec)) sealSpecUptoCard

/-- THE SECOND FORM's CARD OF 'podiumlaw34.SealOpenSpec'. -/
def sealOpenSpecUptoCard : Claim7 := { stood := { row := sealOpenSpecUptoRow, standIns := [], harness := (true, "d2abd9f51b4b78c1a0fb9633ae591002b4af9bb67f497126ca344385c8fdadf5"), looks := true }, kinds := [], alts := [], laidByText := true, laidKinds := [.data, .data], laidTests := true, laidLooks := .later }
def SealOpenSpecUptoCardSaid : Prop := Claim7.holds Tryd.pinned (.plain (OpenSpec.upto sealOpenSpecSpec)) sealOpenSpecUptoCard

/-- THE SECOND FORM's CARD OF 'podiumlaw34.SealBack'. -/
def sealBackUptoCard : Claim7 := { stood := { row := sealBackUptoRow, standIns := [], harness := (true, "d2abd9f51b4b78c1a0fb9633ae591002b4af9bb67f497126ca344385c8fdadf5"), looks := true }, kinds := [], alts := [], laidByText := true, laidKinds := [.data, .data], laidTests := true, laidLooks := .later }
def SealBackUptoCardSaid : Prop := Claim7.holds Tryd.pinned (.plain (OpenSpec.upto sealBackSpec)) sealBackUptoCard

/-- THE SECOND FORM's CARD OF 'podiumlaw34.SealBound'. -/
def sealBoundUptoCard : Claim7 := { stood := { row := sealBoundUptoRow, standIns := [], harness := (true, "d2abd9f51b4b78c1a0fb9633ae591002b4af9bb67f497126ca344385c8fdadf5"), looks := true }, kinds := [], alts := [], laidByText := true, laidKinds := [.data, .data], laidTests := true, laidLooks := .later }
def SealBoundUptoCardSaid : Prop := Claim7.holds Tryd.pinned (.plain (OpenSpec.upto sealBoundSpec)) sealBoundUptoCard

/-- THE SECOND FORM's CARD OF 'podiumlaw34.SealHides'. -/
def sealHidesUptoCard : Claim7 := { stood := { row := sealHidesUptoRow, standIns := [], harness := (true, "d2abd9f51b4b78c1a0fb9633ae591002b4af9bb67f497126ca344385c8fdadf5"), looks := true }, kinds := [], alts := [], laidByText := true, laidKinds := [.data, .data], laidTests := true, laidLooks := .later }
def SealHidesUptoCardSaid : Prop := Claim7.holds Tryd.pinned (.plain (OpenSpec.upto sealHidesSpec)) sealHidesUptoCard
end Rows
end Go.Proofs.YtmgpkcpalpejcaaDoor
