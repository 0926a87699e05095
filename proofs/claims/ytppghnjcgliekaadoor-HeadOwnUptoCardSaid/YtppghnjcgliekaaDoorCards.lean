/-
  DERIVED. GIVEN WITH THE SEED: THE CARDS: each row of YtppghnjcgliekaaDoorRows.lean that lists a variable, with what it lists TIED to the program's text (the seventh form; the later family's looks); each row that meets fmt, with fmt's text TOLD by the authors' own Lean function (tested against real Go, not proved from fmt's source: count such statements apart). THE CARD IS WHAT COUNTS. Prove the row's statement (the work); the ties are given (YtppghnjcgliekaaDoorTie.lean); close each card by the builder's one call (the guide's Derived/Test/ToyasCard.lean, 'card_holds'). Laid BY PROGRAM, IN A SANDBOX (cutbox-door.mjs). By AI agents, Wed Nov 11 2026. No macro, syntax, notation, axiom, sorry.
-/
import Derived.Test.YtppghnjcgliekaaDoorRows
import GoSem.ClaimSeven
namespace Go.Proofs.YtppghnjcgliekaaDoor
namespace Rows

/-- THE TIED CARD OF 'pigeonholelaw15.HeadSplits'. -/
def headSplitsCard : Claim7 := { stood := { row := headSplitsRow, standIns := [], harness := (true, "5ecbb5e312cd2cc936035bd588454947683e5c51c4ac3fad1221a670c975df20"), looks := false }, kinds := [], alts := [], laidByText := true, laidKinds := [.data, .pinned], laidTests := true, laidLooks := .later }
def HeadSplitsCardSaid : Prop := Claim7.holds Tryd.pinned (.plain (OpenSpec.ofChange headSplitsSpec)) headSplitsCard

/-- THE TIED CARD OF 'pigeonholelaw15.HeadFolds'. -/
def headFoldsCard : Claim7 := { stood := { row := headFoldsRow, standIns := [], harness := (true, "5ecbb5e312cd2cc936035bd588454947683e5c51c4ac3fad1221a670c975df20"), looks := false }, kinds := [], alts := [], laidByText := true, laidKinds := [.data, .pinned], laidTests := true, laidLooks := .later }
def HeadFoldsCardSaid : Prop := Claim7.holds Tryd.pinned (.plain (OpenSpec.ofChange headFoldsSpec)) headFoldsCard

/-- THE TIED CARD OF 'pigeonholelaw15.HeadFoldBack'. -/
def headFoldBackCard : Claim7 := { stood := { row := headFoldBackRow, standIns := [], harness := (true, "5ecbb5e312cd2cc936035bd588454947683e5c51c4ac3fad1221a670c975df20"), looks := false }, kinds := [], alts := [], laidByText := true, laidKinds := [.data, .pinned], laidTests := true, laidLooks := .later }
def HeadFoldBackCardSaid : Prop := Claim7.holds Tryd.pinned (.plain (OpenSpec.ofChange headFoldBackSpec)) headFoldBackCard

/-- THE TIED CARD OF 'pigeonholelaw15.HeadIdents'. -/
def headIdentsCard : Claim7 := { stood := { row := headIdentsRow, standIns := [], harness := (true, "5ecbb5e312cd2cc936035bd588454947683e5c51c4ac3fad1221a670c975df20"), looks := false }, kinds := [], alts := [], laidByText := true, laidKinds := [.data, .pinned], laidTests := true, laidLooks := .later }
def HeadIdentsCardSaid : Prop := Claim7.holds Tryd.pinned (.plain (OpenSpec.ofChange headIdentsSpec)) headIdentsCard

/-- THE TIED CARD OF 'pigeonholelaw15.HeadOwn'. -/
def headOwnCard : Claim7 := { stood := { row := headOwnRow, standIns := [], harness := (true, "5ecbb5e312cd2cc936035bd588454947683e5c51c4ac3fad1221a670c975df20"), looks := false }, kinds := [], alts := [], laidByText := true, laidKinds := [.data, .pinned], laidTests := true, laidLooks := .later }
def HeadOwnCardSaid : Prop := Claim7.holds Tryd.pinned (.plain (OpenSpec.ofChange headOwnSpec)) headOwnCard

/-- THE TIED CARD OF 'pigeonholelaw15.HeadInserts'. -/
def headInsertsCard : Claim7 := { stood := { row := headInsertsRow, standIns := [], harness := (true, "5ecbb5e312cd2cc936035bd588454947683e5c51c4ac3fad1221a670c975df20"), looks := false }, kinds := [], alts := [], laidByText := true, laidKinds := [.data, .pinned], laidTests := true, laidLooks := .later }
def HeadInsertsCardSaid : Prop := Claim7.holds Tryd.pinned (.plain (OpenSpec.ofChange headInsertsSpec)) headInsertsCard

/-- THE TIED CARD OF 'pigeonholelaw15.HeadGets'. -/
def headGetsCard : Claim7 := { stood := { row := headGetsRow, standIns := [], harness := (true, "5ecbb5e312cd2cc936035bd588454947683e5c51c4ac3fad1221a670c975df20"), looks := false }, kinds := [], alts := [], laidByText := true, laidKinds := [.data, .pinned], laidTests := true, laidLooks := .later }
def HeadGetsCardSaid : Prop := Claim7.holds Tryd.pinned (.plain (OpenSpec.ofChange headGetsSpec)) headGetsCard

/-- THE SECOND FORM's CARD OF 'pigeonholelaw15.HeadSplits'. -/
def headSplitsUptoCard : Claim7 := { stood := { row := headSplitsUptoRow, standIns := [], harness := (true, "5ecbb5e312cd2cc936035bd588454947683e5c51c4ac3fad1221a670c975df20"), looks := false }, kinds := [], alts := [], laidByText := true, laidKinds := [.data, .pinned], laidTests := true, laidLooks := .later }
def HeadSplitsUptoCardSaid : Prop := Claim7.holds Tryd.pinned (.plain (OpenSpec.upto headSplitsSpec)) headSplitsUptoCard

/-- THE SECOND FORM's CARD OF 'pigeonholelaw15.HeadFolds'. -/
def headFoldsUptoCard : Claim7 := { stood := { row := headFoldsUptoRow, standIns := [], harness := (true, "5ecbb5e312cd2cc936035bd588454947683e5c51c4ac3fad1221a670c975df20"), looks := false }, kinds := [], alts := [], laidByText := true, laidKinds := [.data, .pinned], laidTests := true, laidLooks := .later }
def HeadFoldsUptoCardSaid : Prop := Claim7.holds Tryd.pinned (.plain (OpenSpec.upto headFoldsSpec)) headFoldsUptoCard

/-- THE SECOND FORM's CARD OF 'pigeonholelaw15.HeadFoldBack'. -/
def headFoldBackUptoCard : Claim7 := { stood := { row := headFoldBackUptoRow, standIns := [], harness := (true, "5ecbb5e312cd2cc936035bd588454947683e5c51c4ac3fad1221a670c975df20"), looks := false }, kinds := [], alts := [], laidByText := true, laidKinds := [.data, .pinned], laidTests := true, laidLooks := .later }
def HeadFoldBackUptoCardSaid : Prop := Claim7.holds Tryd.pinned (.plain (OpenSpec.upto headFoldBackSpec)) headFoldBackUptoCard

/-- THE SECOND FORM's CARD OF 'pigeonholelaw15.HeadIdents'. -/
def headIdentsUptoCard : Claim7 := { stood := { row := headIdentsUptoRow, standIns := [], harness := (true, "5ecbb5e312cd2cc936035bd588454947683e5c51c4ac3fad1221a670c975df20"), looks := false }, kinds := [], alts := [], laidByText := true, laidKinds := [.data, .pinned], laidTests := true, laidLooks := .later }
def HeadIdentsUptoCardSaid : Prop := Claim7.holds Tryd.pinned (.plain (OpenSpec.upto headIdentsSpec)) headIdentsUptoCard

/-- THE SECOND FORM's CARD OF 'pigeonholelaw15.HeadOwn'. -/
def headOwnUptoCard : Claim7 := { stood := { row := headOwnUptoRow, standIns := [], harness := (true, "5ecbb5e312cd2cc936035bd588454947683e5c51c4ac3fad1221a670c975df20"), looks := false }, kinds := [], alts := [], laidByText := true, laidKinds := [.data, .pinned], laidTests := true, laidLooks := .later }
def HeadOwnUptoCardSaid : Prop := Claim7.holds Tryd.pinned (.plain (OpenSpec.upto headOwnSpec)) headOwnUptoCard

/-- THE SECOND FORM's CARD OF 'pigeonholelaw15.HeadInserts'. -/
def headInsertsUptoCard : Claim7 := { stood := { row := headInsertsUptoRow, standIns := [], harness := (true, "5ecbb5e312cd2cc936035bd588454947683e5c51c4ac3fad1221a670c975df20"), looks := false }, kinds := [], alts := [], laidByText := true, laidKinds := [.data, .pinned], laidTests := true, laidLooks := .later }
def HeadInsertsUptoCardSaid : Prop := Claim7.holds Tryd.pinned (.plain (OpenSpec.upto headInsertsSpec)) headInsertsUptoCard

/-- THE SECOND FORM's CARD OF 'pigeonholelaw15.HeadGets'. -/
def headGetsUptoCard : Claim7 := { stood := { row := headGetsUptoRow, standIns := [], harness := (true, "5ecbb5e312cd2cc936035bd588454947683e5c51c4ac3fad1221a670c975df20"), looks := false }, kinds := [], alts := [], laidByText := true, laidKinds := [.data, .pinned], laidTests := true, laidLooks := .later }
def HeadGetsUptoCardSaid : Prop := Claim7.holds Tryd.pinned (.plain (OpenSpec.upto headGetsSpec)) headGetsUptoCard
end Rows
end Go.Proofs.YtppghnjcgliekaaDoor
