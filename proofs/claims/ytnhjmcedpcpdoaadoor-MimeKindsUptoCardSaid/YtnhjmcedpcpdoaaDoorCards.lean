/-
  DERIVED. GIVEN WITH THE SEED: THE CARDS: each row of YtnhjmcedpcpdoaaDoorRows.lean that lists a variable, with what it lists TIED to the program's text (the seventh form; the later family's looks); each row that meets fmt, with fmt's text TOLD by the authors' own Lean function (tested against real Go, not proved from fmt's source: count such statements apart). THE CARD IS WHAT COUNTS. Prove the row's statement (the work); the ties are given (YtnhjmcedpcpdoaaDoorTie.lean); close each card by the builder's one call (the guide's Derived/Test/ToyasCard.lean, 'card_holds'). Laid BY PROGRAM, IN A SANDBOX (cutbox-door.mjs). By AI agents, Wed Nov 11 2026. No macro, syntax, notation, axiom, sorry.
-/
import Derived.Test.YtnhjmcedpcpdoaaDoorRows
import GoSem.ClaimSeven
namespace Go.Proofs.YtnhjmcedpcpdoaaDoor
namespace Rows

/-- THE TIED CARD OF 'pigeonholelaw17.MimeLies'. -/
def mimeLiesCard : Claim7 := { stood := { row := mimeLiesRow, standIns := [], harness := (true, "78d98bd0662313d02027f46408d32a93200278770eefc147bea8dde98401bee4"), looks := true }, kinds := [], alts := [], laidByText := true, laidKinds := [.data, .pinned], laidTests := true, laidLooks := .later }
def MimeLiesCardSaid : Prop := Claim7.holds Tryd.pinned (.plain (OpenSpec.ofChange mimeLiesSpec)) mimeLiesCard

/-- THE TIED CARD OF 'pigeonholelaw17.MimeLays'. -/
def mimeLaysCard : Claim7 := { stood := { row := mimeLaysRow, standIns := [], harness := (true, "78d98bd0662313d02027f46408d32a93200278770eefc147bea8dde98401bee4"), looks := true }, kinds := [], alts := [], laidByText := true, laidKinds := [.data, .pinned], laidTests := true, laidLooks := .later }
def MimeLaysCardSaid : Prop := Claim7.holds Tryd.pinned (.plain (OpenSpec.ofChange mimeLaysSpec)) mimeLaysCard

/-- THE TIED CARD OF 'pigeonholelaw17.MimeKinds'. -/
def mimeKindsCard : Claim7 := { stood := { row := mimeKindsRow, standIns := [], harness := (true, "78d98bd0662313d02027f46408d32a93200278770eefc147bea8dde98401bee4"), looks := true }, kinds := [], alts := [], laidByText := true, laidKinds := [.data, .pinned], laidTests := true, laidLooks := .later }
def MimeKindsCardSaid : Prop := Claim7.holds Tryd.pinned (.plain (OpenSpec.ofChange mimeKindsSpec)) mimeKindsCard

/-- THE SECOND FORM's CARD OF 'pigeonholelaw17.MimeLies'. -/
def mimeLiesUptoCard : Claim7 := { stood := { row := mimeLiesUptoRow, standIns := [], harness := (true, "78d98bd0662313d02027f46408d32a93200278770eefc147bea8dde98401bee4"), looks := true }, kinds := [], alts := [], laidByText := true, laidKinds := [.data, .pinned], laidTests := true, laidLooks := .later }
def MimeLiesUptoCardSaid : Prop := Claim7.holds Tryd.pinned (.plain (OpenSpec.upto mimeLiesSpec)) mimeLiesUptoCard

/-- THE SECOND FORM's CARD OF 'pigeonholelaw17.MimeLays'. -/
def mimeLaysUptoCard : Claim7 := { stood := { row := mimeLaysUptoRow, standIns := [], harness := (true, "78d98bd0662313d02027f46408d32a93200278770eefc147bea8dde98401bee4"), looks := true }, kinds := [], alts := [], laidByText := true, laidKinds := [.data, .pinned], laidTests := true, laidLooks := .later }
def MimeLaysUptoCardSaid : Prop := Claim7.holds Tryd.pinned (.plain (OpenSpec.upto mimeLaysSpec)) mimeLaysUptoCard

/-- THE SECOND FORM's CARD OF 'pigeonholelaw17.MimeKinds'. -/
def mimeKindsUptoCard : Claim7 := { stood := { row := mimeKindsUptoRow, standIns := [], harness := (true, "78d98bd0662313d02027f46408d32a93200278770eefc147bea8dde98401bee4"), looks := true }, kinds := [], alts := [], laidByText := true, laidKinds := [.data, .pinned], laidTests := true, laidLooks := .later }
def MimeKindsUptoCardSaid : Prop := Claim7.holds Tryd.pinned (.plain (OpenSpec.upto mimeKindsSpec)) mimeKindsUptoCard
end Rows
end Go.Proofs.YtnhjmcedpcpdoaaDoor
