/-
  DERIVED. GIVEN WITH THE SEED: THE CARDS: each row of YtipfcejaekfogaaGreatDoorRows.lean that lists a variable, with what it lists TIED to the program's text (the seventh form; the later family's looks); each row that meets fmt, with fmt's text TOLD by the authors' own Lean function (tested against real Go, not proved from fmt's source: count such statements apart). THE CARD IS WHAT COUNTS. Prove the row's statement (the work); the ties are given (YtipfcejaekfogaaGreatDoorTie.lean); close each card by the builder's one call (the guide's Derived/Test/ToyasCard.lean, 'card_holds'). Laid BY PROGRAM, IN A SANDBOX (cutbox-door.mjs). By AI agents, Wed Nov 11 2026. No macro, syntax, notation, axiom, sorry.
-/
import Derived.Test.YtipfcejaekfogaaGreatDoorRows
import GoSem.ClaimSeven
namespace Go.Proofs.YtipfcejaekfogaaGreatDoor
namespace Rows

/-- THE TIED CARD OF 'pigeonholelaw10.StoreRight'. -/
def storeRightCard : Claim7 := { stood := { row := storeRightRow, standIns := [], harness := (true, "2e6e0d6978c3aaf0af64465187af261c8c4ad162dab9b0000d0105525a57fdd8"), looks := true }, kinds := [], alts := [], laidByText := true, laidKinds := [.data, .pinned], laidTests := true, laidLooks := .later }
def StoreRightCardSaid : Prop := Claim7.holds Tryz.pinned (.plain (OpenSpec.ofChange storeRightSpec)) storeRightCard

/-- THE TIED CARD OF 'pigeonholelaw10.StorePlays'. -/
def storePlaysCard : Claim7 := { stood := { row := storePlaysRow, standIns := [], harness := (true, "2e6e0d6978c3aaf0af64465187af261c8c4ad162dab9b0000d0105525a57fdd8"), looks := true }, kinds := [], alts := [], laidByText := true, laidKinds := [.data, .pinned], laidTests := true, laidLooks := .later }
def StorePlaysCardSaid : Prop := Claim7.holds Tryz.pinned (.plain (OpenSpec.ofChange storePlaysSpec)) storePlaysCard

/-- THE TIED CARD OF 'pigeonholelaw10.StoreTells'. -/
def storeTellsCard : Claim7 := { stood := { row := storeTellsRow, standIns := [], harness := (true, "2e6e0d6978c3aaf0af64465187af261c8c4ad162dab9b0000d0105525a57fdd8"), looks := true }, kinds := [], alts := [], laidByText := true, laidKinds := [.data, .pinned], laidTests := true, laidLooks := .later }
def StoreTellsCardSaid : Prop := Claim7.holds Tryz.pinned (.plain (OpenSpec.ofChange storeTellsSpec)) storeTellsCard

/-- THE TIED CARD OF 'pigeonholelaw10.StoreWhole'. -/
def storeWholeCard : Claim7 := { stood := { row := storeWholeRow, standIns := [], harness := (true, "2e6e0d6978c3aaf0af64465187af261c8c4ad162dab9b0000d0105525a57fdd8"), looks := true }, kinds := [], alts := [], laidByText := true, laidKinds := [.data, .pinned], laidTests := true, laidLooks := .later }
def StoreWholeCardSaid : Prop := Claim7.holds Tryz.pinned (.plain (OpenSpec.ofChange storeWholeSpec)) storeWholeCard

/-- THE TIED CARD OF 'pigeonholelaw10.StoreForks'. -/
def storeForksCard : Claim7 := { stood := { row := storeForksRow, standIns := [], harness := (true, "2e6e0d6978c3aaf0af64465187af261c8c4ad162dab9b0000d0105525a57fdd8"), looks := true }, kinds := [], alts := [], laidByText := true, laidKinds := [.data, .pinned], laidTests := true, laidLooks := .later }
def StoreForksCardSaid : Prop := Claim7.holds Tryz.pinned (.plain (OpenSpec.ofChange storeForksSpec)) storeForksCard

/-- THE TIED CARD OF 'pigeonholelaw10.StoreMoves'. -/
def storeMovesCard : Claim7 := { stood := { row := storeMovesRow, standIns := [], harness := (true, "2e6e0d6978c3aaf0af64465187af261c8c4ad162dab9b0000d0105525a57fdd8"), looks := true }, kinds := [], alts := [], laidByText := true, laidKinds := [.data, .pinned], laidTests := true, laidLooks := .later }
def StoreMovesCardSaid : Prop := Claim7.holds Tryz.pinned (.plain (OpenSpec.ofChange storeMovesSpec)) storeMovesCard

/-- THE SECOND FORM's CARD OF 'pigeonholelaw10.StoreRight'. -/
def storeRightUptoCard : Claim7 := { stood := { row := storeRightUptoRow, standIns := [], harness := (true, "2e6e0d6978c3aaf0af64465187af261c8c4ad162dab9b0000d0105525a57fdd8"), looks := true }, kinds := [], alts := [], laidByText := true, laidKinds := [.data, .pinned], laidTests := true, laidLooks := .later }
def StoreRightUptoCardSaid : Prop := Claim7.holds Tryz.pinned (.plain (OpenSpec.upto storeRightSpec)) storeRightUptoCard

/-- THE SECOND FORM's CARD OF 'pigeonholelaw10.StorePlays'. -/
def storePlaysUptoCard : Claim7 := { stood := { row := storePlaysUptoRow, standIns := [], harness := (true, "2e6e0d6978c3aaf0af64465187af261c8c4ad162dab9b0000d0105525a57fdd8"), looks := true }, kinds := [], alts := [], laidByText := true, laidKinds := [.data, .pinned], laidTests := true, laidLooks := .later }
def StorePlaysUptoCardSaid : Prop := Claim7.holds Tryz.pinned (.plain (OpenSpec.upto storePlaysSpec)) storePlaysUptoCard

/-- THE SECOND FORM's CARD OF 'pigeonholelaw10.StoreTells'. -/
def storeTellsUptoCard : Claim7 := { stood := { row := storeTellsUptoRow, standIns := [], harness := (true, "2e6e0d6978c3aaf0af64465187af261c8c4ad162dab9b0000d0105525a57fdd8"), looks := true }, kinds := [], alts := [], laidByText := true, laidKinds := [.data, .pinned], laidTests := true, laidLooks := .later }
def StoreTellsUptoCardSaid : Prop := Claim7.holds Tryz.pinned (.plain (OpenSpec.upto storeTellsSpec)) storeTellsUptoCard

/-- THE SECOND FORM's CARD OF 'pigeonholelaw10.StoreWhole'. -/
def storeWholeUptoCard : Claim7 := { stood := { row := storeWholeUptoRow, standIns := [], harness := (true, "2e6e0d6978c3aaf0af64465187af261c8c4ad162dab9b0000d0105525a57fdd8"), looks := true }, kinds := [], alts := [], laidByText := true, laidKinds := [.data, .pinned], laidTests := true, laidLooks := .later }
def StoreWholeUptoCardSaid : Prop := Claim7.holds Tryz.pinned (.plain (OpenSpec.upto storeWholeSpec)) storeWholeUptoCard

/-- THE SECOND FORM's CARD OF 'pigeonholelaw10.StoreForks'. -/
def storeForksUptoCard : Claim7 := { stood := { row := storeForksUptoRow, standIns := [], harness := (true, "2e6e0d6978c3aaf0af64465187af261c8c4ad162dab9b0000d0105525a57fdd8"), looks := true }, kinds := [], alts := [], laidByText := true, laidKinds := [.data, .pinned], laidTests := true, laidLooks := .later }
def StoreForksUptoCardSaid : Prop := Claim7.holds Tryz.pinned (.plain (OpenSpec.upto storeForksSpec)) storeForksUptoCard

/-- THE SECOND FORM's CARD OF 'pigeonholelaw10.StoreMoves'. -/
def storeMovesUptoCard : Claim7 := { stood := { row := storeMovesUptoRow, standIns := [], harness := (true, "2e6e0d6978c3aaf0af64465187af261c8c4ad162dab9b0000d0105525a57fdd8"), looks := true }, kinds := [], alts := [], laidByText := true, laidKinds := [.data, .pinned], laidTests := true, laidLooks := .later }
def StoreMovesUptoCardSaid : Prop := Claim7.holds Tryz.pinned (.plain (OpenSpec.upto storeMovesSpec)) storeMovesUptoCard
end Rows
end Go.Proofs.YtipfcejaekfogaaGreatDoor
