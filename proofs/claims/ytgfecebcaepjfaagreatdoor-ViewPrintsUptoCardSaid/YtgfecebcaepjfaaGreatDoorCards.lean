/-
  DERIVED. GIVEN WITH THE SEED: THE CARDS: each row of YtgfecebcaepjfaaGreatDoorRows.lean that lists a variable, with what it lists TIED to the program's text (the seventh form; the later family's looks); each row that meets fmt, with fmt's text TOLD by the authors' own Lean function (tested against real Go, not proved from fmt's source: count such statements apart). THE CARD IS WHAT COUNTS. Prove the row's statement (the work); the ties are given (YtgfecebcaepjfaaGreatDoorTie.lean); close each card by the builder's one call (the guide's Derived/Test/ToyasCard.lean, 'card_holds'). Laid BY PROGRAM, IN A SANDBOX (cutbox-door.mjs). By AI agents, Wed Nov 11 2026. No macro, syntax, notation, axiom, sorry.
-/
import Derived.Test.YtgfecebcaepjfaaGreatDoorRows
import GoSem.ClaimSeven
namespace Go.Proofs.YtgfecebcaepjfaaGreatDoor
namespace Rows

/-- THE TIED CARD OF 'pigeonholelaw20.ViewFlags'. -/
def viewFlagsCard : Claim7 := { stood := { row := viewFlagsRow, standIns := [], harness := (true, "9a8b1ee12b79b770dbce153c211c63b3fa4a1dbb4a20d5018f56bd23f4f7b463"), looks := true }, kinds := [], alts := [], laidByText := true, laidKinds := [.data, .pinned], laidTests := true, laidLooks := .later }
def ViewFlagsCardSaid : Prop := Claim7.holds Tryz.pinned (.plain (OpenSpec.ofChange viewFlagsSpec)) viewFlagsCard

/-- THE TIED CARD OF 'pigeonholelaw20.ViewParts'. -/
def viewPartsCard : Claim7 := { stood := { row := viewPartsRow, standIns := [], harness := (true, "9a8b1ee12b79b770dbce153c211c63b3fa4a1dbb4a20d5018f56bd23f4f7b463"), looks := true }, kinds := [], alts := [], laidByText := true, laidKinds := [.data, .pinned], laidTests := true, laidLooks := .later }
def ViewPartsCardSaid : Prop := Claim7.holds Tryz.pinned (.plain (OpenSpec.ofChange viewPartsSpec)) viewPartsCard

/-- THE TIED CARD OF 'pigeonholelaw20.ViewPrints'. -/
def viewPrintsCard : Claim7 := { stood := { row := viewPrintsRow, standIns := [], harness := (true, "9a8b1ee12b79b770dbce153c211c63b3fa4a1dbb4a20d5018f56bd23f4f7b463"), looks := true }, kinds := [], alts := [], laidByText := true, laidKinds := [.data, .pinned], laidTests := true, laidLooks := .later }
def ViewPrintsCardSaid : Prop := Claim7.holds Tryz.pinned (.plain (OpenSpec.ofChange viewPrintsSpec)) viewPrintsCard

/-- THE SECOND FORM's CARD OF 'pigeonholelaw20.ViewFlags'. -/
def viewFlagsUptoCard : Claim7 := { stood := { row := viewFlagsUptoRow, standIns := [], harness := (true, "9a8b1ee12b79b770dbce153c211c63b3fa4a1dbb4a20d5018f56bd23f4f7b463"), looks := true }, kinds := [], alts := [], laidByText := true, laidKinds := [.data, .pinned], laidTests := true, laidLooks := .later }
def ViewFlagsUptoCardSaid : Prop := Claim7.holds Tryz.pinned (.plain (OpenSpec.upto viewFlagsSpec)) viewFlagsUptoCard

/-- THE SECOND FORM's CARD OF 'pigeonholelaw20.ViewParts'. -/
def viewPartsUptoCard : Claim7 := { stood := { row := viewPartsUptoRow, standIns := [], harness := (true, "9a8b1ee12b79b770dbce153c211c63b3fa4a1dbb4a20d5018f56bd23f4f7b463"), looks := true }, kinds := [], alts := [], laidByText := true, laidKinds := [.data, .pinned], laidTests := true, laidLooks := .later }
def ViewPartsUptoCardSaid : Prop := Claim7.holds Tryz.pinned (.plain (OpenSpec.upto viewPartsSpec)) viewPartsUptoCard

/-- THE SECOND FORM's CARD OF 'pigeonholelaw20.ViewPrints'. -/
def viewPrintsUptoCard : Claim7 := { stood := { row := viewPrintsUptoRow, standIns := [], harness := (true, "9a8b1ee12b79b770dbce153c211c63b3fa4a1dbb4a20d5018f56bd23f4f7b463"), looks := true }, kinds := [], alts := [], laidByText := true, laidKinds := [.data, .pinned], laidTests := true, laidLooks := .later }
def ViewPrintsUptoCardSaid : Prop := Claim7.holds Tryz.pinned (.plain (OpenSpec.upto viewPrintsSpec)) viewPrintsUptoCard
end Rows
end Go.Proofs.YtgfecebcaepjfaaGreatDoor
