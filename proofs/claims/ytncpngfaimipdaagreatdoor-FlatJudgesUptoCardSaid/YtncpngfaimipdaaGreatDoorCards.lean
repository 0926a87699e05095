/-
  DERIVED. GIVEN WITH THE SEED: THE CARDS: each row of YtncpngfaimipdaaGreatDoorRows.lean that lists a variable, with what it lists TIED to the program's text (the seventh form; the later family's looks); each row that meets fmt, with fmt's text TOLD by the authors' own Lean function (tested against real Go, not proved from fmt's source: count such statements apart). THE CARD IS WHAT COUNTS. Prove the row's statement (the work); the ties are given (YtncpngfaimipdaaGreatDoorTie.lean); close each card by the builder's one call (the guide's Derived/Test/ToyasCard.lean, 'card_holds'). Laid BY PROGRAM, IN A SANDBOX (cutbox-door.mjs). By AI agents, Wed Nov 11 2026. No macro, syntax, notation, axiom, sorry.
-/
import Derived.Test.YtncpngfaimipdaaGreatDoorRows
import GoSem.ClaimSeven
namespace Go.Proofs.YtncpngfaimipdaaGreatDoor
namespace Rows

/-- THE TIED CARD OF 'pigeonholelaw24.FlatJudges'. -/
def flatJudgesCard : Claim7 := { stood := { row := flatJudgesRow, standIns := [], harness := (true, "5e30458b775bf5749ae9f9495b252223c6a659f90cd394d17558366ba3f3ba84"), looks := true }, kinds := [], alts := [], laidByText := true, laidKinds := [.data, .pinned], laidTests := true, laidLooks := .later }
def FlatJudgesCardSaid : Prop := Claim7.holds Tryz.pinned (.plain (OpenSpec.ofChange flatJudgesSpec)) flatJudgesCard

/-- THE TIED CARD OF 'pigeonholelaw24.FlatPlays'. -/
def flatPlaysCard : Claim7 := { stood := { row := flatPlaysRow, standIns := [], harness := (true, "5e30458b775bf5749ae9f9495b252223c6a659f90cd394d17558366ba3f3ba84"), looks := true }, kinds := [], alts := [], laidByText := true, laidKinds := [.data, .pinned], laidTests := true, laidLooks := .later }
def FlatPlaysCardSaid : Prop := Claim7.holds Tryz.pinned (.plain (OpenSpec.ofChange flatPlaysSpec)) flatPlaysCard

/-- THE TIED CARD OF 'pigeonholelaw24.FlatForks'. -/
def flatForksCard : Claim7 := { stood := { row := flatForksRow, standIns := [], harness := (true, "5e30458b775bf5749ae9f9495b252223c6a659f90cd394d17558366ba3f3ba84"), looks := true }, kinds := [], alts := [], laidByText := true, laidKinds := [.data, .pinned], laidTests := true, laidLooks := .later }
def FlatForksCardSaid : Prop := Claim7.holds Tryz.pinned (.plain (OpenSpec.ofChange flatForksSpec)) flatForksCard

/-- THE SECOND FORM's CARD OF 'pigeonholelaw24.FlatJudges'. -/
def flatJudgesUptoCard : Claim7 := { stood := { row := flatJudgesUptoRow, standIns := [], harness := (true, "5e30458b775bf5749ae9f9495b252223c6a659f90cd394d17558366ba3f3ba84"), looks := true }, kinds := [], alts := [], laidByText := true, laidKinds := [.data, .pinned], laidTests := true, laidLooks := .later }
def FlatJudgesUptoCardSaid : Prop := Claim7.holds Tryz.pinned (.plain (OpenSpec.upto flatJudgesSpec)) flatJudgesUptoCard

/-- THE SECOND FORM's CARD OF 'pigeonholelaw24.FlatPlays'. -/
def flatPlaysUptoCard : Claim7 := { stood := { row := flatPlaysUptoRow, standIns := [], harness := (true, "5e30458b775bf5749ae9f9495b252223c6a659f90cd394d17558366ba3f3ba84"), looks := true }, kinds := [], alts := [], laidByText := true, laidKinds := [.data, .pinned], laidTests := true, laidLooks := .later }
def FlatPlaysUptoCardSaid : Prop := Claim7.holds Tryz.pinned (.plain (OpenSpec.upto flatPlaysSpec)) flatPlaysUptoCard

/-- THE SECOND FORM's CARD OF 'pigeonholelaw24.FlatForks'. -/
def flatForksUptoCard : Claim7 := { stood := { row := flatForksUptoRow, standIns := [], harness := (true, "5e30458b775bf5749ae9f9495b252223c6a659f90cd394d17558366ba3f3ba84"), looks := true }, kinds := [], alts := [], laidByText := true, laidKinds := [.data, .pinned], laidTests := true, laidLooks := .later }
def FlatForksUptoCardSaid : Prop := Claim7.holds Tryz.pinned (.plain (OpenSpec.upto flatForksSpec)) flatForksUptoCard
end Rows
end Go.Proofs.YtncpngfaimipdaaGreatDoor
