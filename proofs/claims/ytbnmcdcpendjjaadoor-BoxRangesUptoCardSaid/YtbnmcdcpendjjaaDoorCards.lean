/-
  DERIVED. GIVEN WITH THE SEED: THE CARDS: each row of YtbnmcdcpendjjaaDoorRows.lean that lists a variable, with what it lists TIED to the program's text (the seventh form; the later family's looks); each row that meets fmt, with fmt's text TOLD by the authors' own Lean function (tested against real Go, not proved from fmt's source: count such statements apart). THE CARD IS WHAT COUNTS. Prove the row's statement (the work); the ties are given (YtbnmcdcpendjjaaDoorTie.lean); close each card by the builder's one call (the guide's Derived/Test/ToyasCard.lean, 'card_holds'). Laid BY PROGRAM, IN A SANDBOX (cutbox-door.mjs). By AI agents, Wed Nov 11 2026. No macro, syntax, notation, axiom, sorry.
-/
import Derived.Test.YtbnmcdcpendjjaaDoorRows
import GoSem.ClaimSeven
namespace Go.Proofs.YtbnmcdcpendjjaaDoor
namespace Rows

/-- THE TIED CARD OF 'pigeonholelaw08.BoxSets'. -/
def boxSetsCard : Claim7 := { stood := { row := boxSetsRow, standIns := [], harness := (true, "58cdf5b842d5c4e46bd36c1149626751995ba4db4d2e6b1644c2d63718722d10"), looks := false }, kinds := [], alts := [], laidByText := true, laidKinds := [.data, .pinned], laidTests := true, laidLooks := .later }
def BoxSetsCardSaid : Prop := Claim7.holds Tryd.pinned (.plain (OpenSpec.ofChange boxSetsSpec)) boxSetsCard

/-- THE TIED CARD OF 'pigeonholelaw08.BoxRanges'. -/
def boxRangesCard : Claim7 := { stood := { row := boxRangesRow, standIns := [], harness := (true, "58cdf5b842d5c4e46bd36c1149626751995ba4db4d2e6b1644c2d63718722d10"), looks := false }, kinds := [], alts := [], laidByText := true, laidKinds := [.data, .pinned], laidTests := true, laidLooks := .later }
def BoxRangesCardSaid : Prop := Claim7.holds Tryd.pinned (.plain (OpenSpec.ofChange boxRangesSpec)) boxRangesCard

/-- THE SECOND FORM's CARD OF 'pigeonholelaw08.BoxSets'. -/
def boxSetsUptoCard : Claim7 := { stood := { row := boxSetsUptoRow, standIns := [], harness := (true, "58cdf5b842d5c4e46bd36c1149626751995ba4db4d2e6b1644c2d63718722d10"), looks := false }, kinds := [], alts := [], laidByText := true, laidKinds := [.data, .pinned], laidTests := true, laidLooks := .later }
def BoxSetsUptoCardSaid : Prop := Claim7.holds Tryd.pinned (.plain (OpenSpec.upto boxSetsSpec)) boxSetsUptoCard

/-- THE SECOND FORM's CARD OF 'pigeonholelaw08.BoxRanges'. -/
def boxRangesUptoCard : Claim7 := { stood := { row := boxRangesUptoRow, standIns := [], harness := (true, "58cdf5b842d5c4e46bd36c1149626751995ba4db4d2e6b1644c2d63718722d10"), looks := false }, kinds := [], alts := [], laidByText := true, laidKinds := [.data, .pinned], laidTests := true, laidLooks := .later }
def BoxRangesUptoCardSaid : Prop := Claim7.holds Tryd.pinned (.plain (OpenSpec.upto boxRangesSpec)) boxRangesUptoCard
end Rows
end Go.Proofs.YtbnmcdcpendjjaaDoor
