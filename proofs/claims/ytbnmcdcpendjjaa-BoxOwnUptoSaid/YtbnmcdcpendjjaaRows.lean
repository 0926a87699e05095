/-
  No cell of these rows narrows 'for every input' (looked for: loops, veiled, ifaces, maps, wideKeys, modest, calm, conditions, laid).
  DERIVED. THE GIVEN ROWS OF THIS SEAT. 7 by the template 'for every input the law returns true; each argument reads behind the call as it read before'; 0 by the template 'total and deterministic' (their statements: YtbnmcdcpendjjaaTotals.lean).
  GIVEN WITH THE SEED: the statements are not yours to turn. If you find one false, say at which input.
  Laid BY PROGRAM, IN A SANDBOX (cutbox-rows.mjs): the forced cells as the released guide's own fill.sh prints them over the translation dd7c5c06f761f0a8… (all of the seat's roots in one cut). By AI agents, Wed Nov 11 2026. No macro, syntax, notation, axiom, sorry.
-/
import Derived.Test.YtbnmcdcpendjjaaChecked
import GoSem.Claim
import GoSem.ClaimJoined
import GoSem.ClaimMapViews
import Derived.JoinedTies
import Derived.KernelRfl
namespace Go.Proofs.Ytbnmcdcpendjjaa
/- THE CELL 'sum', in the pinned program and in every row, IS THE sha256 OF THE DUMP (.gsa) THAT YtbnmcdcpendjjaaProg.lean LOADS. Nothing in Lean hashes anything: it is a label: what it is worth is what the hold of that sum in a sandbox is worth. -/
noncomputable def Try.pinned : Pinned := { name := "ytbnmcdcpendjjaa", sum := "dd7c5c06f761f0a8794e04115c8c30d3ce875be94e9c90009a89ccdef0111365", checked := Try.checked }
namespace Rows
def none {H : Type} : Left H := { results := [], args := [] }

/-- 'pigeonholelaw08.BoxAdds': WHATEVER THE INPUT: true; the input reads as it did. -/
def boxAddsSpec : ChangeSpec := { name := "boxAdds", fn := fun _ => fun
  | [d1, d2, d3] => { results := [.lit (.bool true)], args := [d1, d2, d3] }
  | _ => none }
def boxAddsRow : OpenClaim := { program := "ytbnmcdcpendjjaa", sum := "dd7c5c06f761f0a8794e04115c8c30d3ce875be94e9c90009a89ccdef0111365", func := "pigeonhole/pigeonholelaw08.BoxAdds", spec := "boxAdds", inPlace := ["internal/bytealg.IndexByteString", "internal/bytealg.IndexString"], unfollowed := true, recurses := true, named := ["internal/bytealg.MaxLen"], apart := false }
def BoxAddsSaid : Prop := boxAddsRow.holds Try.pinned (OpenSpec.ofChange boxAddsSpec)

/-- ITS FALSE NEIGHBOUR: 'it returns false'. Refute it at one input. -/
def boxAddsWrong : ChangeSpec := { name := "boxAdds", fn := fun _ => fun
  | [d1, d2, d3] => { results := [.lit (.bool false)], args := [d1, d2, d3] }
  | _ => none }
def BoxAddsWrongFalsely : Prop := boxAddsRow.holds Try.pinned (OpenSpec.ofChange boxAddsWrong)

/-- 'pigeonholelaw08.BoxFinds': WHATEVER THE INPUT: true; the input reads as it did. -/
def boxFindsSpec : ChangeSpec := { name := "boxFinds", fn := fun _ => fun
  | [d1, d2] => { results := [.lit (.bool true)], args := [d1, d2] }
  | _ => none }
def boxFindsRow : OpenClaim := { program := "ytbnmcdcpendjjaa", sum := "dd7c5c06f761f0a8794e04115c8c30d3ce875be94e9c90009a89ccdef0111365", func := "pigeonhole/pigeonholelaw08.BoxFinds", spec := "boxFinds", inPlace := ["internal/bytealg.IndexByteString", "internal/bytealg.IndexString"], unfollowed := true, recurses := true, named := ["internal/bytealg.MaxLen"], apart := false }
def BoxFindsSaid : Prop := boxFindsRow.holds Try.pinned (OpenSpec.ofChange boxFindsSpec)

/-- ITS FALSE NEIGHBOUR: 'it returns false'. Refute it at one input. -/
def boxFindsWrong : ChangeSpec := { name := "boxFinds", fn := fun _ => fun
  | [d1, d2] => { results := [.lit (.bool false)], args := [d1, d2] }
  | _ => none }
def BoxFindsWrongFalsely : Prop := boxFindsRow.holds Try.pinned (OpenSpec.ofChange boxFindsWrong)

/-- 'pigeonholelaw08.BoxChecks': WHATEVER THE INPUT: true; the input reads as it did. -/
def boxChecksSpec : ChangeSpec := { name := "boxChecks", fn := fun _ => fun
  | [d] => { results := [.lit (.bool true)], args := [d] }
  | _ => none }
def boxChecksRow : OpenClaim := { program := "ytbnmcdcpendjjaa", sum := "dd7c5c06f761f0a8794e04115c8c30d3ce875be94e9c90009a89ccdef0111365", func := "pigeonhole/pigeonholelaw08.BoxChecks", spec := "boxChecks", inPlace := ["internal/bytealg.IndexByteString", "internal/bytealg.IndexString"], unfollowed := true, recurses := true, named := ["internal/bytealg.MaxLen"], apart := false }
def BoxChecksSaid : Prop := boxChecksRow.holds Try.pinned (OpenSpec.ofChange boxChecksSpec)

/-- ITS FALSE NEIGHBOUR: 'it returns false'. Refute it at one input. -/
def boxChecksWrong : ChangeSpec := { name := "boxChecks", fn := fun _ => fun
  | [d] => { results := [.lit (.bool false)], args := [d] }
  | _ => none }
def BoxChecksWrongFalsely : Prop := boxChecksRow.holds Try.pinned (OpenSpec.ofChange boxChecksWrong)

/-- 'pigeonholelaw08.BoxFlags': WHATEVER THE INPUT: true; the input reads as it did. -/
def boxFlagsSpec : ChangeSpec := { name := "boxFlags", fn := fun _ => fun
  | [d1, d2] => { results := [.lit (.bool true)], args := [d1, d2] }
  | _ => none }
def boxFlagsRow : OpenClaim := { program := "ytbnmcdcpendjjaa", sum := "dd7c5c06f761f0a8794e04115c8c30d3ce875be94e9c90009a89ccdef0111365", func := "pigeonhole/pigeonholelaw08.BoxFlags", spec := "boxFlags", inPlace := ["internal/bytealg.IndexByteString", "internal/bytealg.IndexString"], unfollowed := true, recurses := true, named := ["internal/bytealg.MaxLen"], apart := false }
def BoxFlagsSaid : Prop := boxFlagsRow.holds Try.pinned (OpenSpec.ofChange boxFlagsSpec)

/-- ITS FALSE NEIGHBOUR: 'it returns false'. Refute it at one input. -/
def boxFlagsWrong : ChangeSpec := { name := "boxFlags", fn := fun _ => fun
  | [d1, d2] => { results := [.lit (.bool false)], args := [d1, d2] }
  | _ => none }
def BoxFlagsWrongFalsely : Prop := boxFlagsRow.holds Try.pinned (OpenSpec.ofChange boxFlagsWrong)

/-- 'pigeonholelaw08.BoxRises': WHATEVER THE INPUT: true; the input reads as it did. -/
def boxRisesSpec : ChangeSpec := { name := "boxRises", fn := fun _ => fun
  | [d1, d2] => { results := [.lit (.bool true)], args := [d1, d2] }
  | _ => none }
def boxRisesRow : OpenClaim := { program := "ytbnmcdcpendjjaa", sum := "dd7c5c06f761f0a8794e04115c8c30d3ce875be94e9c90009a89ccdef0111365", func := "pigeonhole/pigeonholelaw08.BoxRises", spec := "boxRises", inPlace := ["internal/bytealg.IndexByteString", "internal/bytealg.IndexString"], unfollowed := true, recurses := true, named := ["internal/bytealg.MaxLen"], apart := false }
def BoxRisesSaid : Prop := boxRisesRow.holds Try.pinned (OpenSpec.ofChange boxRisesSpec)

/-- ITS FALSE NEIGHBOUR: 'it returns false'. Refute it at one input. -/
def boxRisesWrong : ChangeSpec := { name := "boxRises", fn := fun _ => fun
  | [d1, d2] => { results := [.lit (.bool false)], args := [d1, d2] }
  | _ => none }
def BoxRisesWrongFalsely : Prop := boxRisesRow.holds Try.pinned (OpenSpec.ofChange boxRisesWrong)

/-- 'pigeonholelaw08.BoxTurns': WHATEVER THE INPUT: true; the input reads as it did. -/
def boxTurnsSpec : ChangeSpec := { name := "boxTurns", fn := fun _ => fun
  | [d1, d2] => { results := [.lit (.bool true)], args := [d1, d2] }
  | _ => none }
def boxTurnsRow : OpenClaim := { program := "ytbnmcdcpendjjaa", sum := "dd7c5c06f761f0a8794e04115c8c30d3ce875be94e9c90009a89ccdef0111365", func := "pigeonhole/pigeonholelaw08.BoxTurns", spec := "boxTurns", inPlace := ["internal/bytealg.IndexByteString", "internal/bytealg.IndexString"], unfollowed := true, recurses := true, named := ["internal/bytealg.MaxLen"], apart := false }
def BoxTurnsSaid : Prop := boxTurnsRow.holds Try.pinned (OpenSpec.ofChange boxTurnsSpec)

/-- ITS FALSE NEIGHBOUR: 'it returns false'. Refute it at one input. -/
def boxTurnsWrong : ChangeSpec := { name := "boxTurns", fn := fun _ => fun
  | [d1, d2] => { results := [.lit (.bool false)], args := [d1, d2] }
  | _ => none }
def BoxTurnsWrongFalsely : Prop := boxTurnsRow.holds Try.pinned (OpenSpec.ofChange boxTurnsWrong)

/-- 'pigeonholelaw08.BoxOwn': WHATEVER THE INPUT: true; the input reads as it did. -/
def boxOwnSpec : ChangeSpec := { name := "boxOwn", fn := fun _ => fun
  | [d1, d2, d3] => { results := [.lit (.bool true)], args := [d1, d2, d3] }
  | _ => none }
def boxOwnRow : OpenClaim := { program := "ytbnmcdcpendjjaa", sum := "dd7c5c06f761f0a8794e04115c8c30d3ce875be94e9c90009a89ccdef0111365", func := "pigeonhole/pigeonholelaw08.BoxOwn", spec := "boxOwn", inPlace := ["internal/bytealg.IndexByteString", "internal/bytealg.IndexString"], unfollowed := true, recurses := true, named := ["internal/bytealg.MaxLen"], apart := false }
def BoxOwnSaid : Prop := boxOwnRow.holds Try.pinned (OpenSpec.ofChange boxOwnSpec)

/-- ITS FALSE NEIGHBOUR: 'it returns false'. Refute it at one input. -/
def boxOwnWrong : ChangeSpec := { name := "boxOwn", fn := fun _ => fun
  | [d1, d2, d3] => { results := [.lit (.bool false)], args := [d1, d2, d3] }
  | _ => none }
def BoxOwnWrongFalsely : Prop := boxOwnRow.holds Try.pinned (OpenSpec.ofChange boxOwnWrong)

/- THE SECOND FORM. 'bulk': how many values and letters a reading holds, each counted each time it is reached (what is shared counts as often as it is met; a slice's spare places count too). A statement '..UptoSaid' is the law's where the arguments, and the package variables that the reading takes, are together of bulk at most 1048576: NARROWER than '..Said'. Prove '..Said' where nothing that the law and all that it calls make is longer than what came in: it says more and counts as full. Else prove '..UptoSaid'. A law counts once. -/
mutual
def uptoBulk {H : Type} : DataW H → Nat
  | .lit (.string bytes) => bytes.length + 1
  | .lit _ => 1
  | .nil => 1
  | .ptr d => uptoBulk d + 1
  | .slice elems spare => uptoBulkAll elems + uptoBulkAll spare + 1
  | .agg parts => uptoBulkAll parts + 1
  | .iface _ d => uptoBulk d + 1
  | .map entries => uptoBulkEntries entries + 1
  | .held _ => 1
def uptoBulkAll {H : Type} : List (DataW H) → Nat
  | [] => 0
  | d :: r => uptoBulk d + uptoBulkAll r
def uptoBulkEntries {H : Type} : List (Lit × DataW H) → Nat
  | [] => 0
  | x :: r => uptoBulkEntry x + uptoBulkEntries r
def uptoBulkEntry {H : Type} : Lit × DataW H → Nat
  | (.string bytes, d) => bytes.length + uptoBulk d + 1
  | (_, d) => uptoBulk d + 1
 end
def uptoSmall : (H : Type) → List (DataW H) → Bool := fun _ ds => decide (uptoBulkAll ds ≤ 1048576)
def OpenSpec.upto (s : _root_.Go.ChangeSpec) : _root_.Go.OpenSpec := { _root_.Go.OpenSpec.ofChange s with cond := some uptoSmall }

/-- 'pigeonholelaw08.BoxAdds', WHERE WHAT IT READS IS OF BULK AT MOST 1048576: true; the input reads as it did. -/
def boxAddsUptoRow : OpenClaim := { program := "ytbnmcdcpendjjaa", sum := "dd7c5c06f761f0a8794e04115c8c30d3ce875be94e9c90009a89ccdef0111365", func := "pigeonhole/pigeonholelaw08.BoxAdds", spec := "boxAdds", inPlace := ["internal/bytealg.IndexByteString", "internal/bytealg.IndexString"], unfollowed := true, recurses := true, named := ["internal/bytealg.MaxLen"], apart := false, narrowed := true }
def BoxAddsUptoSaid : Prop := boxAddsUptoRow.holds Try.pinned (OpenSpec.upto boxAddsSpec)

/-- 'pigeonholelaw08.BoxFinds', WHERE WHAT IT READS IS OF BULK AT MOST 1048576: true; the input reads as it did. -/
def boxFindsUptoRow : OpenClaim := { program := "ytbnmcdcpendjjaa", sum := "dd7c5c06f761f0a8794e04115c8c30d3ce875be94e9c90009a89ccdef0111365", func := "pigeonhole/pigeonholelaw08.BoxFinds", spec := "boxFinds", inPlace := ["internal/bytealg.IndexByteString", "internal/bytealg.IndexString"], unfollowed := true, recurses := true, named := ["internal/bytealg.MaxLen"], apart := false, narrowed := true }
def BoxFindsUptoSaid : Prop := boxFindsUptoRow.holds Try.pinned (OpenSpec.upto boxFindsSpec)

/-- 'pigeonholelaw08.BoxChecks', WHERE WHAT IT READS IS OF BULK AT MOST 1048576: true; the input reads as it did. -/
def boxChecksUptoRow : OpenClaim := { program := "ytbnmcdcpendjjaa", sum := "dd7c5c06f761f0a8794e04115c8c30d3ce875be94e9c90009a89ccdef0111365", func := "pigeonhole/pigeonholelaw08.BoxChecks", spec := "boxChecks", inPlace := ["internal/bytealg.IndexByteString", "internal/bytealg.IndexString"], unfollowed := true, recurses := true, named := ["internal/bytealg.MaxLen"], apart := false, narrowed := true }
def BoxChecksUptoSaid : Prop := boxChecksUptoRow.holds Try.pinned (OpenSpec.upto boxChecksSpec)

/-- 'pigeonholelaw08.BoxFlags', WHERE WHAT IT READS IS OF BULK AT MOST 1048576: true; the input reads as it did. -/
def boxFlagsUptoRow : OpenClaim := { program := "ytbnmcdcpendjjaa", sum := "dd7c5c06f761f0a8794e04115c8c30d3ce875be94e9c90009a89ccdef0111365", func := "pigeonhole/pigeonholelaw08.BoxFlags", spec := "boxFlags", inPlace := ["internal/bytealg.IndexByteString", "internal/bytealg.IndexString"], unfollowed := true, recurses := true, named := ["internal/bytealg.MaxLen"], apart := false, narrowed := true }
def BoxFlagsUptoSaid : Prop := boxFlagsUptoRow.holds Try.pinned (OpenSpec.upto boxFlagsSpec)

/-- 'pigeonholelaw08.BoxRises', WHERE WHAT IT READS IS OF BULK AT MOST 1048576: true; the input reads as it did. -/
def boxRisesUptoRow : OpenClaim := { program := "ytbnmcdcpendjjaa", sum := "dd7c5c06f761f0a8794e04115c8c30d3ce875be94e9c90009a89ccdef0111365", func := "pigeonhole/pigeonholelaw08.BoxRises", spec := "boxRises", inPlace := ["internal/bytealg.IndexByteString", "internal/bytealg.IndexString"], unfollowed := true, recurses := true, named := ["internal/bytealg.MaxLen"], apart := false, narrowed := true }
def BoxRisesUptoSaid : Prop := boxRisesUptoRow.holds Try.pinned (OpenSpec.upto boxRisesSpec)

/-- 'pigeonholelaw08.BoxTurns', WHERE WHAT IT READS IS OF BULK AT MOST 1048576: true; the input reads as it did. -/
def boxTurnsUptoRow : OpenClaim := { program := "ytbnmcdcpendjjaa", sum := "dd7c5c06f761f0a8794e04115c8c30d3ce875be94e9c90009a89ccdef0111365", func := "pigeonhole/pigeonholelaw08.BoxTurns", spec := "boxTurns", inPlace := ["internal/bytealg.IndexByteString", "internal/bytealg.IndexString"], unfollowed := true, recurses := true, named := ["internal/bytealg.MaxLen"], apart := false, narrowed := true }
def BoxTurnsUptoSaid : Prop := boxTurnsUptoRow.holds Try.pinned (OpenSpec.upto boxTurnsSpec)

/-- 'pigeonholelaw08.BoxOwn', WHERE WHAT IT READS IS OF BULK AT MOST 1048576: true; the input reads as it did. -/
def boxOwnUptoRow : OpenClaim := { program := "ytbnmcdcpendjjaa", sum := "dd7c5c06f761f0a8794e04115c8c30d3ce875be94e9c90009a89ccdef0111365", func := "pigeonhole/pigeonholelaw08.BoxOwn", spec := "boxOwn", inPlace := ["internal/bytealg.IndexByteString", "internal/bytealg.IndexString"], unfollowed := true, recurses := true, named := ["internal/bytealg.MaxLen"], apart := false, narrowed := true }
def BoxOwnUptoSaid : Prop := boxOwnUptoRow.holds Try.pinned (OpenSpec.upto boxOwnSpec)

end Rows
end Go.Proofs.Ytbnmcdcpendjjaa
