/-
  No cell of these rows narrows 'for every input' (looked for: loops, veiled, ifaces, maps, wideKeys, modest, calm, conditions, laid).
  DERIVED. THE GIVEN ROWS OF THIS SEAT. 5 by the template 'for every input the law returns true; each argument reads behind the call as it read before'; 0 by the template 'total and deterministic' (their statements: YtjpbndlmjbmdaaaTotals.lean).
  GIVEN WITH THE SEED: the statements are not yours to turn. If you find one false, say at which input.
  Laid BY PROGRAM, IN A SANDBOX (cutbox-rows.mjs): the forced cells as the released guide's own fill.sh prints them over the translation b2127fea8bcbc099… (all of the seat's roots in one cut). By AI agents, Wed Nov 11 2026. No macro, syntax, notation, axiom, sorry.
-/
import Derived.Test.YtjpbndlmjbmdaaaChecked
import GoSem.Claim
import GoSem.ClaimJoined
import GoSem.ClaimMapViews
import Derived.JoinedTies
import Derived.KernelRfl
namespace Go.Proofs.Ytjpbndlmjbmdaaa
/- THE CELL 'sum', in the pinned program and in every row, IS THE sha256 OF THE DUMP (.gsa) THAT YtjpbndlmjbmdaaaProg.lean LOADS. Nothing in Lean hashes anything: it is a label: what it is worth is what the hold of that sum in a sandbox is worth. -/
noncomputable def Try.pinned : Pinned := { name := "ytjpbndlmjbmdaaa", sum := "b2127fea8bcbc0996b1f2779f102d1ac52ff1d3a6bebb6121a586fee79d77e87", checked := Try.checked }
namespace Rows
def none {H : Type} : Left H := { results := [], args := [] }

/-- 'pigeonholelaw04.PlaceHashes': WHATEVER THE INPUT: true; the input reads as it did. -/
def placeHashesSpec : ChangeSpec := { name := "placeHashes", fn := fun _ => fun
  | [d1, d2] => { results := [.lit (.bool true)], args := [d1, d2] }
  | _ => none }
def placeHashesRow : OpenClaim := { program := "ytjpbndlmjbmdaaa", sum := "b2127fea8bcbc0996b1f2779f102d1ac52ff1d3a6bebb6121a586fee79d77e87", func := "pigeonhole/pigeonholelaw04.PlaceHashes", spec := "placeHashes", unfollowed := true, recurses := true, apart := false }
def PlaceHashesSaid : Prop := placeHashesRow.holds Try.pinned (OpenSpec.ofChange placeHashesSpec)

/-- ITS FALSE NEIGHBOUR: 'it returns false'. Refute it at one input. -/
def placeHashesWrong : ChangeSpec := { name := "placeHashes", fn := fun _ => fun
  | [d1, d2] => { results := [.lit (.bool false)], args := [d1, d2] }
  | _ => none }
def PlaceHashesWrongFalsely : Prop := placeHashesRow.holds Try.pinned (OpenSpec.ofChange placeHashesWrong)

/-- 'pigeonholelaw04.PlaceLearns': WHATEVER THE INPUT: true; the input reads as it did. -/
def placeLearnsSpec : ChangeSpec := { name := "placeLearns", fn := fun _ => fun
  | [d1, d2, d3] => { results := [.lit (.bool true)], args := [d1, d2, d3] }
  | _ => none }
def placeLearnsRow : OpenClaim := { program := "ytjpbndlmjbmdaaa", sum := "b2127fea8bcbc0996b1f2779f102d1ac52ff1d3a6bebb6121a586fee79d77e87", func := "pigeonhole/pigeonholelaw04.PlaceLearns", spec := "placeLearns", unfollowed := true, recurses := true, apart := false }
def PlaceLearnsSaid : Prop := placeLearnsRow.holds Try.pinned (OpenSpec.ofChange placeLearnsSpec)

/-- ITS FALSE NEIGHBOUR: 'it returns false'. Refute it at one input. -/
def placeLearnsWrong : ChangeSpec := { name := "placeLearns", fn := fun _ => fun
  | [d1, d2, d3] => { results := [.lit (.bool false)], args := [d1, d2, d3] }
  | _ => none }
def PlaceLearnsWrongFalsely : Prop := placeLearnsRow.holds Try.pinned (OpenSpec.ofChange placeLearnsWrong)

/-- 'pigeonholelaw04.PlaceAnyOrder': WHATEVER THE INPUT: true; the input reads as it did. -/
def placeAnyOrderSpec : ChangeSpec := { name := "placeAnyOrder", fn := fun _ => fun
  | [d1, d2, d3] => { results := [.lit (.bool true)], args := [d1, d2, d3] }
  | _ => none }
def placeAnyOrderRow : OpenClaim := { program := "ytjpbndlmjbmdaaa", sum := "b2127fea8bcbc0996b1f2779f102d1ac52ff1d3a6bebb6121a586fee79d77e87", func := "pigeonhole/pigeonholelaw04.PlaceAnyOrder", spec := "placeAnyOrder", unfollowed := true, recurses := true, apart := false }
def PlaceAnyOrderSaid : Prop := placeAnyOrderRow.holds Try.pinned (OpenSpec.ofChange placeAnyOrderSpec)

/-- ITS FALSE NEIGHBOUR: 'it returns false'. Refute it at one input. -/
def placeAnyOrderWrong : ChangeSpec := { name := "placeAnyOrder", fn := fun _ => fun
  | [d1, d2, d3] => { results := [.lit (.bool false)], args := [d1, d2, d3] }
  | _ => none }
def PlaceAnyOrderWrongFalsely : Prop := placeAnyOrderRow.holds Try.pinned (OpenSpec.ofChange placeAnyOrderWrong)

/-- 'pigeonholelaw04.PlaceRises': WHATEVER THE INPUT: true; the input reads as it did. -/
def placeRisesSpec : ChangeSpec := { name := "placeRises", fn := fun _ => fun
  | [d1, d2] => { results := [.lit (.bool true)], args := [d1, d2] }
  | _ => none }
def placeRisesRow : OpenClaim := { program := "ytjpbndlmjbmdaaa", sum := "b2127fea8bcbc0996b1f2779f102d1ac52ff1d3a6bebb6121a586fee79d77e87", func := "pigeonhole/pigeonholelaw04.PlaceRises", spec := "placeRises", unfollowed := true, recurses := true, apart := false }
def PlaceRisesSaid : Prop := placeRisesRow.holds Try.pinned (OpenSpec.ofChange placeRisesSpec)

/-- ITS FALSE NEIGHBOUR: 'it returns false'. Refute it at one input. -/
def placeRisesWrong : ChangeSpec := { name := "placeRises", fn := fun _ => fun
  | [d1, d2] => { results := [.lit (.bool false)], args := [d1, d2] }
  | _ => none }
def PlaceRisesWrongFalsely : Prop := placeRisesRow.holds Try.pinned (OpenSpec.ofChange placeRisesWrong)

/-- 'pigeonholelaw04.PlaceForks': WHATEVER THE INPUT: true; the input reads as it did. -/
def placeForksSpec : ChangeSpec := { name := "placeForks", fn := fun _ => fun
  | [d1, d2, d3] => { results := [.lit (.bool true)], args := [d1, d2, d3] }
  | _ => none }
def placeForksRow : OpenClaim := { program := "ytjpbndlmjbmdaaa", sum := "b2127fea8bcbc0996b1f2779f102d1ac52ff1d3a6bebb6121a586fee79d77e87", func := "pigeonhole/pigeonholelaw04.PlaceForks", spec := "placeForks", inPlace := ["maps.clone"], unfollowed := true, recurses := true, apart := false }
def PlaceForksSaid : Prop := placeForksRow.holds Try.pinned (OpenSpec.ofChange placeForksSpec)

/-- ITS FALSE NEIGHBOUR: 'it returns false'. Refute it at one input. -/
def placeForksWrong : ChangeSpec := { name := "placeForks", fn := fun _ => fun
  | [d1, d2, d3] => { results := [.lit (.bool false)], args := [d1, d2, d3] }
  | _ => none }
def PlaceForksWrongFalsely : Prop := placeForksRow.holds Try.pinned (OpenSpec.ofChange placeForksWrong)

/- THE SECOND FORM. 'bulk': how many values and letters a reading holds, each counted each time it is reached (what is shared counts as often as it is met; a slice's spare places count too). A statement '..UptoSaid' is the law's where the arguments, and the package variables that the reading takes, are together of bulk at most 1048576: NARROWER than '..Said'. Prove '..Said' where nothing that the law and all that it calls make is longer than what came in: it says more and counts as full. Else prove '..UptoSaid'. A law counts once. -/
mutual
def uptoBulk {H : Type} : DataW H → Nat
  | .lit (.string bytes) => bytes.length + 1
  | .lit _ => 1
  | .nil => 1
  | .ptr d => uptoBulk d + 1
  | .slice elems spare => uptoBulkAll elems + uptoBulkAll spare + 1
  | .agg parts => uptoBulkAll parts + 1
  | .iface _ d => uptoBulk d + 1
  | .map entries => uptoBulkEntries entries + 1
  | .held _ => 1
def uptoBulkAll {H : Type} : List (DataW H) → Nat
  | [] => 0
  | d :: r => uptoBulk d + uptoBulkAll r
def uptoBulkEntries {H : Type} : List (Lit × DataW H) → Nat
  | [] => 0
  | x :: r => uptoBulkEntry x + uptoBulkEntries r
def uptoBulkEntry {H : Type} : Lit × DataW H → Nat
  | (.string bytes, d) => bytes.length + uptoBulk d + 1
  | (_, d) => uptoBulk d + 1
 end
def uptoSmall : (H : Type) → List (DataW H) → Bool := fun _ ds => decide (uptoBulkAll ds ≤ 1048576)
def OpenSpec.upto (s : _root_.Go.ChangeSpec) : _root_.Go.OpenSpec := { _root_.Go.OpenSpec.ofChange s with cond := some uptoSmall }

/-- 'pigeonholelaw04.PlaceHashes', WHERE WHAT IT READS IS OF BULK AT MOST 1048576: true; the input reads as it did. -/
def placeHashesUptoRow : OpenClaim := { program := "ytjpbndlmjbmdaaa", sum := "b2127fea8bcbc0996b1f2779f102d1ac52ff1d3a6bebb6121a586fee79d77e87", func := "pigeonhole/pigeonholelaw04.PlaceHashes", spec := "placeHashes", unfollowed := true, recurses := true, apart := false, narrowed := true }
def PlaceHashesUptoSaid : Prop := placeHashesUptoRow.holds Try.pinned (OpenSpec.upto placeHashesSpec)

/-- 'pigeonholelaw04.PlaceLearns', WHERE WHAT IT READS IS OF BULK AT MOST 1048576: true; the input reads as it did. -/
def placeLearnsUptoRow : OpenClaim := { program := "ytjpbndlmjbmdaaa", sum := "b2127fea8bcbc0996b1f2779f102d1ac52ff1d3a6bebb6121a586fee79d77e87", func := "pigeonhole/pigeonholelaw04.PlaceLearns", spec := "placeLearns", unfollowed := true, recurses := true, apart := false, narrowed := true }
def PlaceLearnsUptoSaid : Prop := placeLearnsUptoRow.holds Try.pinned (OpenSpec.upto placeLearnsSpec)

/-- 'pigeonholelaw04.PlaceAnyOrder', WHERE WHAT IT READS IS OF BULK AT MOST 1048576: true; the input reads as it did. -/
def placeAnyOrderUptoRow : OpenClaim := { program := "ytjpbndlmjbmdaaa", sum := "b2127fea8bcbc0996b1f2779f102d1ac52ff1d3a6bebb6121a586fee79d77e87", func := "pigeonhole/pigeonholelaw04.PlaceAnyOrder", spec := "placeAnyOrder", unfollowed := true, recurses := true, apart := false, narrowed := true }
def PlaceAnyOrderUptoSaid : Prop := placeAnyOrderUptoRow.holds Try.pinned (OpenSpec.upto placeAnyOrderSpec)

/-- 'pigeonholelaw04.PlaceRises', WHERE WHAT IT READS IS OF BULK AT MOST 1048576: true; the input reads as it did. -/
def placeRisesUptoRow : OpenClaim := { program := "ytjpbndlmjbmdaaa", sum := "b2127fea8bcbc0996b1f2779f102d1ac52ff1d3a6bebb6121a586fee79d77e87", func := "pigeonhole/pigeonholelaw04.PlaceRises", spec := "placeRises", unfollowed := true, recurses := true, apart := false, narrowed := true }
def PlaceRisesUptoSaid : Prop := placeRisesUptoRow.holds Try.pinned (OpenSpec.upto placeRisesSpec)

/-- 'pigeonholelaw04.PlaceForks', WHERE WHAT IT READS IS OF BULK AT MOST 1048576: true; the input reads as it did. -/
def placeForksUptoRow : OpenClaim := { program := "ytjpbndlmjbmdaaa", sum := "b2127fea8bcbc0996b1f2779f102d1ac52ff1d3a6bebb6121a586fee79d77e87", func := "pigeonhole/pigeonholelaw04.PlaceForks", spec := "placeForks", inPlace := ["maps.clone"], unfollowed := true, recurses := true, apart := false, narrowed := true }
def PlaceForksUptoSaid : Prop := placeForksUptoRow.holds Try.pinned (OpenSpec.upto placeForksSpec)

end Rows
end Go.Proofs.Ytjpbndlmjbmdaaa
