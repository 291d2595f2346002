/-
  DERIVED. GIVEN WITH THE SEED: THE CARDS: each row of YtnooplpbpfiapaaGreatDoorRows.lean that lists a variable, with what it lists TIED to the program's text (the seventh form; the later family's looks); each row that meets fmt, with fmt's text TOLD by the authors' own Lean function (tested against real Go, not proved from fmt's source: count such statements apart). THE CARD IS WHAT COUNTS. Prove the row's statement (the work); the ties are given (YtnooplpbpfiapaaGreatDoorTie.lean); close each card by the builder's one call (the guide's Derived/Test/ToyasCard.lean, 'card_holds'). Laid BY PROGRAM, IN A SANDBOX (cutbox-door.mjs). By AI agents, Wed Nov 11 2026. No macro, syntax, notation, axiom, sorry.
-/
import Derived.Test.YtnooplpbpfiapaaGreatDoorRows
import GoSem.ClaimSeven
namespace Go.Proofs.YtnooplpbpfiapaaGreatDoor
namespace Rows

/-- THE TIED CARD OF 'podiumlaw36.OpeningSpec'. -/
def openingSpecCard : Claim7 := { stood := { row := openingSpecRow, standIns := [], harness := (true, "ffc4543b999d2e2c31cdf81055f5021fbefa10124ccad2d48d02d065e1def487"), looks := true }, kinds := [], alts := [], laidByText := true, laidKinds := [.data, .data], laidTests := true, laidLooks := .later }
def OpeningSpecCardSaid : Prop := Claim7.holds Tryz.pinned (.plain (OpenSpec.ofChange openingSpecSpec)) openingSpecCard

/-- THE TIED CARD OF 'podiumlaw36.OpeningCardsSpec'. -/
def openingCardsSpecCard : Claim7 := { stood := { row := openingCardsSpecRow, standIns := [], harness := (true, "ffc4543b999d2e2c31cdf81055f5021fbefa10124ccad2d48d02d065e1def487"), looks := true }, kinds := [], alts := [], laidByText := true, laidKinds := [.data, .data], laidTests := true, laidLooks := .later }
def OpeningCardsSpecCardSaid : Prop := Claim7.holds Tryz.pinned (.plain (OpenSpec.ofChange openingCardsSpecSpec)) openingCardsSpecCard

/-- THE TIED CARD OF 'podiumlaw36.OpeningKept'. -/
def openingKeptCard : Claim7 := { stood := { row := openingKeptRow, standIns := [], harness := (true, "ffc4543b999d2e2c31cdf81055f5021fbefa10124ccad2d48d02d065e1def487"), looks := true }, kinds := [], alts := [], laidByText := true, laidKinds := [.data, .data], laidTests := true, laidLooks := .later }
def OpeningKeptCardSaid : Prop := Claim7.holds Tryz.pinned (.plain (OpenSpec.ofChange openingKeptSpec)) openingKeptCard

/-- THE TIED CARD OF 'podiumlaw36.OpeningOrder'. -/
def openingOrderCard : Claim7 := { stood := { row := openingOrderRow, standIns := [], harness := (true, "ffc4543b999d2e2c31cdf81055f5021fbefa10124ccad2d48d02d065e1def487"), looks := true }, kinds := [], alts := [], laidByText := true, laidKinds := [.data, .data], laidTests := true, laidLooks := .later }
def OpeningOrderCardSaid : Prop := Claim7.holds Tryz.pinned (.plain (OpenSpec.ofChange openingOrderSpec)) openingOrderCard

/-- THE TIED CARD OF 'podiumlaw36.OpeningClosed'. -/
def openingClosedCard : Claim7 := { stood := { row := openingClosedRow, standIns := [], harness := (true, "ffc4543b999d2e2c31cdf81055f5021fbefa10124ccad2d48d02d065e1def487"), looks := true }, kinds := [], alts := [], laidByText := true, laidKinds := [.data, .data], laidTests := true, laidLooks := .later }
def OpeningClosedCardSaid : Prop := Claim7.holds Tryz.pinned (.plain (OpenSpec.ofChange openingClosedSpec)) openingClosedCard

/-- THE TIED CARD OF 'podiumlaw36.OpeningFew'. -/
def openingFewCard : Claim7 := { stood := { row := openingFewRow, standIns := [], harness := (true, "ffc4543b999d2e2c31cdf81055f5021fbefa10124ccad2d48d02d065e1def487"), looks := true }, kinds := [], alts := [], laidByText := true, laidKinds := [.data, .data], laidTests := true, laidLooks := .later }
def OpeningFewCardSaid : Prop := Claim7.holds Tryz.pinned (.plain (OpenSpec.ofChange openingFewSpec)) openingFewCard

/-- THE TIED CARD OF 'podiumlaw36.OpeningOpens'. -/
def openingOpensCard : Claim7 := { stood := { row := openingOpensRow, standIns := [], harness := (true, "ffc4543b999d2e2c31cdf81055f5021fbefa10124ccad2d48d02d065e1def487"), looks := true }, kinds := [], alts := [], laidByText := true, laidKinds := [.data, .data], laidTests := true, laidLooks := .later }
def OpeningOpensCardSaid : Prop := Claim7.holds Tryz.pinned (.plain (OpenSpec.ofChange openingOpensSpec)) openingOpensCard

/-- THE SECOND FORM's CARD OF 'podiumlaw36.OpeningSpec'. -/
def openingSpecUptoCard : Claim7 := { stood := { row := openingSpecUptoRow, standIns := [], harness := (true, "ffc4543b999d2e2c31cdf81055f5021fbefa10124ccad2d48d02d065e1def487"), looks := true }, kinds := [], alts := [], laidByText := true, laidKinds := [.data, .data], laidTests := true, laidLooks := .later }
def OpeningSpecUptoCardSaid : Prop := Claim7.holds Tryz.pinned (.plain (OpenSpec.upto openingSpecSpec)) openingSpecUptoCard

/-- THE SECOND FORM's CARD OF 'podiumlaw36.OpeningCardsSpec'. -/
def openingCardsSpecUptoCard : Claim7 := { stood := { row := openingCardsSpecUptoRow, standIns := [], harness := (true, "ffc4543b999d2e2c31cdf81055f5021fbefa10124ccad2d48d02d065e1def487"), looks := true }, kinds := [], alts := [], laidByText := true, laidKinds := [.data, .data], laidTests := true, laidLooks := .later }
def OpeningCardsSpecUptoCardSaid : Prop := Claim7.holds Tryz.pinned (.plain (OpenSpec.upto openingCardsSpecSpec)) openingCardsSpecUptoCard

/-- THE SECOND FORM's CARD OF 'podiumlaw36.OpeningKept'. -/
def openingKeptUptoCard : Claim7 := { stood := { row := openingKeptUptoRow, standIns := [], harness := (true, "ffc4543b999d2e2c31cdf81055f5021fbefa10124ccad2d48d02d065e1def487"), looks := true }, kinds := [], alts := [], laidByText := true, laidKinds := [.data, .data], laidTests := true, laidLooks := .later }
def OpeningKeptUptoCardSaid : Prop := Claim7.holds Tryz.pinned (.plain (OpenSpec.upto openingKeptSpec)) openingKeptUptoCard

/-- THE SECOND FORM's CARD OF 'podiumlaw36.OpeningOrder'. -/
def openingOrderUptoCard : Claim7 := { stood := { row := openingOrderUptoRow, standIns := [], harness := (true, "ffc4543b999d2e2c31cdf81055f5021fbefa10124ccad2d48d02d065e1def487"), looks := true }, kinds := [], alts := [], laidByText := true, laidKinds := [.data, .data], laidTests := true, laidLooks := .later }
def OpeningOrderUptoCardSaid : Prop := Claim7.holds Tryz.pinned (.plain (OpenSpec.upto openingOrderSpec)) openingOrderUptoCard

/-- THE SECOND FORM's CARD OF 'podiumlaw36.OpeningClosed'. -/
def openingClosedUptoCard : Claim7 := { stood := { row := openingClosedUptoRow, standIns := [], harness := (true, "ffc4543b999d2e2c31cdf81055f5021fbefa10124ccad2d48d02d065e1def487"), looks := true }, kinds := [], alts := [], laidByText := true, laidKinds := [.data, .data], laidTests := true, laidLooks := .later }
def OpeningClosedUptoCardSaid : Prop := Claim7.holds Tryz.pinned (.plain (OpenSpec.upto openingClosedSpec)) openingClosedUptoCard

/-- THE SECOND FORM's CARD OF 'podiumlaw36.OpeningFew'. -/
def openingFewUptoCard : Claim7 := { stood := { row := openingFewUptoRow, standIns := [], harness := (true, "ffc4543b999d2e2c31cdf81055f5021fbefa10124ccad2d48d02d065e1def487"), looks := true }, kinds := [], alts := [], laidByText := true, laidKinds := [.data, .data], laidTests := true, laidLooks := .later }
def OpeningFewUptoCardSaid : Prop := Claim7.holds Tryz.pinned (.plain (OpenSpec.upto openingFewSpec)) openingFewUptoCard

/-- THE SECOND FORM's CARD OF 'podiumlaw36.OpeningOpens'. -/
def openingOpensUptoCard : Claim7 := { stood := { row := openingOpensUptoRow, standIns := [], harness := (true, "ffc4543b999d2e2c31cdf81055f5021fbefa10124ccad2d48d02d065e1def487"), looks := true }, kinds := [], alts := [], laidByText := true, laidKinds := [.data, .data], laidTests := true, laidLooks := .later }
def OpeningOpensUptoCardSaid : Prop := Claim7.holds Tryz.pinned (.plain (OpenSpec.upto openingOpensSpec)) openingOpensUptoCard
end Rows
end Go.Proofs.YtnooplpbpfiapaaGreatDoor
