/-
  DERIVED. GIVEN WITH THE SEED: THE CARDS: each row of YtijhleakepbahaaGreatDoorRows.lean that lists a variable, with what it lists TIED to the program's text (the seventh form; the later family's looks); each row that meets fmt, with fmt's text TOLD by the authors' own Lean function (tested against real Go, not proved from fmt's source: count such statements apart). THE CARD IS WHAT COUNTS. Prove the row's statement (the work); the ties are given (YtijhleakepbahaaGreatDoorTie.lean); close each card by the builder's one call (the guide's Derived/Test/ToyasCard.lean, 'card_holds'). Laid BY PROGRAM, IN A SANDBOX (cutbox-door.mjs). By AI agents, Wed Nov 11 2026. No macro, syntax, notation, axiom, sorry.
-/
import Derived.Test.YtijhleakepbahaaGreatDoorRows
import GoSem.ClaimSeven
namespace Go.Proofs.YtijhleakepbahaaGreatDoor
namespace Rows

/-- THE TIED CARD OF 'pigeonholelaw19.QueryAsks'. -/
def queryAsksCard : Claim7 := { stood := { row := queryAsksRow, standIns := [], harness := (true, "930acaae9d8b8661df23f4b404643ab6c30d1c896a726e90023dd032a361bd2d"), looks := true }, kinds := [], alts := [], laidByText := true, laidKinds := [.data, .pinned], laidTests := true, laidLooks := .later }
def QueryAsksCardSaid : Prop := Claim7.holds Tryz.pinned (.plain (OpenSpec.ofChange queryAsksSpec)) queryAsksCard

/-- THE TIED CARD OF 'pigeonholelaw19.QueryLogic'. -/
def queryLogicCard : Claim7 := { stood := { row := queryLogicRow, standIns := [], harness := (true, "930acaae9d8b8661df23f4b404643ab6c30d1c896a726e90023dd032a361bd2d"), looks := true }, kinds := [], alts := [], laidByText := true, laidKinds := [.data, .pinned], laidTests := true, laidLooks := .later }
def QueryLogicCardSaid : Prop := Claim7.holds Tryz.pinned (.plain (OpenSpec.ofChange queryLogicSpec)) queryLogicCard

/-- THE TIED CARD OF 'pigeonholelaw19.QueryPicks'. -/
def queryPicksCard : Claim7 := { stood := { row := queryPicksRow, standIns := [], harness := (true, "930acaae9d8b8661df23f4b404643ab6c30d1c896a726e90023dd032a361bd2d"), looks := true }, kinds := [], alts := [], laidByText := true, laidKinds := [.data, .pinned], laidTests := true, laidLooks := .later }
def QueryPicksCardSaid : Prop := Claim7.holds Tryz.pinned (.plain (OpenSpec.ofChange queryPicksSpec)) queryPicksCard

/-- THE SECOND FORM's CARD OF 'pigeonholelaw19.QueryAsks'. -/
def queryAsksUptoCard : Claim7 := { stood := { row := queryAsksUptoRow, standIns := [], harness := (true, "930acaae9d8b8661df23f4b404643ab6c30d1c896a726e90023dd032a361bd2d"), looks := true }, kinds := [], alts := [], laidByText := true, laidKinds := [.data, .pinned], laidTests := true, laidLooks := .later }
def QueryAsksUptoCardSaid : Prop := Claim7.holds Tryz.pinned (.plain (OpenSpec.upto queryAsksSpec)) queryAsksUptoCard

/-- THE SECOND FORM's CARD OF 'pigeonholelaw19.QueryLogic'. -/
def queryLogicUptoCard : Claim7 := { stood := { row := queryLogicUptoRow, standIns := [], harness := (true, "930acaae9d8b8661df23f4b404643ab6c30d1c896a726e90023dd032a361bd2d"), looks := true }, kinds := [], alts := [], laidByText := true, laidKinds := [.data, .pinned], laidTests := true, laidLooks := .later }
def QueryLogicUptoCardSaid : Prop := Claim7.holds Tryz.pinned (.plain (OpenSpec.upto queryLogicSpec)) queryLogicUptoCard

/-- THE SECOND FORM's CARD OF 'pigeonholelaw19.QueryPicks'. -/
def queryPicksUptoCard : Claim7 := { stood := { row := queryPicksUptoRow, standIns := [], harness := (true, "930acaae9d8b8661df23f4b404643ab6c30d1c896a726e90023dd032a361bd2d"), looks := true }, kinds := [], alts := [], laidByText := true, laidKinds := [.data, .pinned], laidTests := true, laidLooks := .later }
def QueryPicksUptoCardSaid : Prop := Claim7.holds Tryz.pinned (.plain (OpenSpec.upto queryPicksSpec)) queryPicksUptoCard
end Rows
end Go.Proofs.YtijhleakepbahaaGreatDoor
