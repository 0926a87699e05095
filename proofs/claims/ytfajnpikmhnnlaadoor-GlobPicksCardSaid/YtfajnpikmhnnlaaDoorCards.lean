/-
  DERIVED. GIVEN WITH THE SEED: THE CARDS: each row of YtfajnpikmhnnlaaDoorRows.lean that lists a variable, with what it lists TIED to the program's text (the seventh form; the later family's looks); each row that meets fmt, with fmt's text TOLD by the authors' own Lean function (tested against real Go, not proved from fmt's source: count such statements apart). THE CARD IS WHAT COUNTS. Prove the row's statement (the work); the ties are given (YtfajnpikmhnnlaaDoorTie.lean); close each card by the builder's one call (the guide's Derived/Test/ToyasCard.lean, 'card_holds'). Laid BY PROGRAM, IN A SANDBOX (cutbox-door.mjs). By AI agents, Wed Nov 11 2026. No macro, syntax, notation, axiom, sorry.
-/
import Derived.Test.YtfajnpikmhnnlaaDoorRows
import GoSem.ClaimSeven
namespace Go.Proofs.YtfajnpikmhnnlaaDoor
namespace Rows

/-- THE TIED CARD OF 'pigeonholelaw18.GlobMatches'. -/
def globMatchesCard : Claim7 := { stood := { row := globMatchesRow, standIns := [], harness := (true, "a20a56012acae642ce8d4e0d2b6ae06558fa3d8891cbe1f8b6101df7c08e392e"), looks := false }, kinds := [], alts := [], laidByText := true, laidKinds := [.data, .pinned], laidTests := true, laidLooks := .later }
def GlobMatchesCardSaid : Prop := Claim7.holds Tryd.pinned (.plain (OpenSpec.ofChange globMatchesSpec)) globMatchesCard

/-- THE TIED CARD OF 'pigeonholelaw18.GlobPlain'. -/
def globPlainCard : Claim7 := { stood := { row := globPlainRow, standIns := [], harness := (true, "a20a56012acae642ce8d4e0d2b6ae06558fa3d8891cbe1f8b6101df7c08e392e"), looks := false }, kinds := [], alts := [], laidByText := true, laidKinds := [.data, .pinned], laidTests := true, laidLooks := .later }
def GlobPlainCardSaid : Prop := Claim7.holds Tryd.pinned (.plain (OpenSpec.ofChange globPlainSpec)) globPlainCard

/-- THE TIED CARD OF 'pigeonholelaw18.GlobSteps'. -/
def globStepsCard : Claim7 := { stood := { row := globStepsRow, standIns := [], harness := (true, "a20a56012acae642ce8d4e0d2b6ae06558fa3d8891cbe1f8b6101df7c08e392e"), looks := false }, kinds := [], alts := [], laidByText := true, laidKinds := [.data, .pinned], laidTests := true, laidLooks := .later }
def GlobStepsCardSaid : Prop := Claim7.holds Tryd.pinned (.plain (OpenSpec.ofChange globStepsSpec)) globStepsCard

/-- THE TIED CARD OF 'pigeonholelaw18.GlobMoves'. -/
def globMovesCard : Claim7 := { stood := { row := globMovesRow, standIns := [], harness := (true, "a20a56012acae642ce8d4e0d2b6ae06558fa3d8891cbe1f8b6101df7c08e392e"), looks := false }, kinds := [], alts := [], laidByText := true, laidKinds := [.data, .pinned], laidTests := true, laidLooks := .later }
def GlobMovesCardSaid : Prop := Claim7.holds Tryd.pinned (.plain (OpenSpec.ofChange globMovesSpec)) globMovesCard

/-- THE TIED CARD OF 'pigeonholelaw18.GlobPicks'. -/
def globPicksCard : Claim7 := { stood := { row := globPicksRow, standIns := [], harness := (true, "a20a56012acae642ce8d4e0d2b6ae06558fa3d8891cbe1f8b6101df7c08e392e"), looks := false }, kinds := [], alts := [], laidByText := true, laidKinds := [.data, .pinned], laidTests := true, laidLooks := .later }
def GlobPicksCardSaid : Prop := Claim7.holds Tryd.pinned (.plain (OpenSpec.ofChange globPicksSpec)) globPicksCard

/-- THE SECOND FORM's CARD OF 'pigeonholelaw18.GlobMatches'. -/
def globMatchesUptoCard : Claim7 := { stood := { row := globMatchesUptoRow, standIns := [], harness := (true, "a20a56012acae642ce8d4e0d2b6ae06558fa3d8891cbe1f8b6101df7c08e392e"), looks := false }, kinds := [], alts := [], laidByText := true, laidKinds := [.data, .pinned], laidTests := true, laidLooks := .later }
def GlobMatchesUptoCardSaid : Prop := Claim7.holds Tryd.pinned (.plain (OpenSpec.upto globMatchesSpec)) globMatchesUptoCard

/-- THE SECOND FORM's CARD OF 'pigeonholelaw18.GlobPlain'. -/
def globPlainUptoCard : Claim7 := { stood := { row := globPlainUptoRow, standIns := [], harness := (true, "a20a56012acae642ce8d4e0d2b6ae06558fa3d8891cbe1f8b6101df7c08e392e"), looks := false }, kinds := [], alts := [], laidByText := true, laidKinds := [.data, .pinned], laidTests := true, laidLooks := .later }
def GlobPlainUptoCardSaid : Prop := Claim7.holds Tryd.pinned (.plain (OpenSpec.upto globPlainSpec)) globPlainUptoCard

/-- THE SECOND FORM's CARD OF 'pigeonholelaw18.GlobSteps'. -/
def globStepsUptoCard : Claim7 := { stood := { row := globStepsUptoRow, standIns := [], harness := (true, "a20a56012acae642ce8d4e0d2b6ae06558fa3d8891cbe1f8b6101df7c08e392e"), looks := false }, kinds := [], alts := [], laidByText := true, laidKinds := [.data, .pinned], laidTests := true, laidLooks := .later }
def GlobStepsUptoCardSaid : Prop := Claim7.holds Tryd.pinned (.plain (OpenSpec.upto globStepsSpec)) globStepsUptoCard

/-- THE SECOND FORM's CARD OF 'pigeonholelaw18.GlobMoves'. -/
def globMovesUptoCard : Claim7 := { stood := { row := globMovesUptoRow, standIns := [], harness := (true, "a20a56012acae642ce8d4e0d2b6ae06558fa3d8891cbe1f8b6101df7c08e392e"), looks := false }, kinds := [], alts := [], laidByText := true, laidKinds := [.data, .pinned], laidTests := true, laidLooks := .later }
def GlobMovesUptoCardSaid : Prop := Claim7.holds Tryd.pinned (.plain (OpenSpec.upto globMovesSpec)) globMovesUptoCard

/-- THE SECOND FORM's CARD OF 'pigeonholelaw18.GlobPicks'. -/
def globPicksUptoCard : Claim7 := { stood := { row := globPicksUptoRow, standIns := [], harness := (true, "a20a56012acae642ce8d4e0d2b6ae06558fa3d8891cbe1f8b6101df7c08e392e"), looks := false }, kinds := [], alts := [], laidByText := true, laidKinds := [.data, .pinned], laidTests := true, laidLooks := .later }
def GlobPicksUptoCardSaid : Prop := Claim7.holds Tryd.pinned (.plain (OpenSpec.upto globPicksSpec)) globPicksUptoCard
end Rows
end Go.Proofs.YtfajnpikmhnnlaaDoor
