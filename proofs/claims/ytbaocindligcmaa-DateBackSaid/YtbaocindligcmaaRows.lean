/-
  No cell of these rows narrows 'for every input' (looked for: loops, veiled, ifaces, maps, wideKeys, modest, calm, conditions, laid).
  DERIVED. THE GIVEN ROWS OF THIS SEAT. 5 by the template 'for every input the law returns true; each argument reads behind the call as it read before'; 0 by the template 'total and deterministic' (their statements: YtbaocindligcmaaTotals.lean).
  GIVEN WITH THE SEED: the statements are not yours to turn. If you find one false, say at which input.
  Laid BY PROGRAM, IN A SANDBOX (cutbox-rows.mjs): the forced cells as the released guide's own fill.sh prints them over the translation d0953250d67fe532… (all of the seat's roots in one cut). By AI agents, Wed Nov 11 2026. No macro, syntax, notation, axiom, sorry.
-/
import Derived.Test.YtbaocindligcmaaChecked
import GoSem.Claim
import GoSem.ClaimJoined
import GoSem.ClaimMapViews
import Derived.JoinedTies
import Derived.KernelRfl
namespace Go.Proofs.Ytbaocindligcmaa
/- THE CELL 'sum', in the pinned program and in every row, IS THE sha256 OF THE DUMP (.gsa) THAT YtbaocindligcmaaProg.lean LOADS. Nothing in Lean hashes anything: it is a label: what it is worth is what the hold of that sum in a sandbox is worth. -/
noncomputable def Try.pinned : Pinned := { name := "ytbaocindligcmaa", sum := "d0953250d67fe532e43a5e2fbe938a7232f014e0028fe593dc5b3c06d4533091", checked := Try.checked }
namespace Rows
def none {H : Type} : Left H := { results := [], args := [] }

/-- 'pigeonholelaw16.DateDays': WHATEVER THE INPUT: true; the input reads as it did. -/
def dateDaysSpec : ChangeSpec := { name := "dateDays", fn := fun _ => fun
  | [d1, d2] => { results := [.lit (.bool true)], args := [d1, d2] }
  | _ => none }
def dateDaysRow : OpenClaim := { program := "ytbaocindligcmaa", sum := "d0953250d67fe532e43a5e2fbe938a7232f014e0028fe593dc5b3c06d4533091", func := "pigeonhole/pigeonholelaw16.DateDays", spec := "dateDays", unfollowed := true, recurses := true, apart := false }
def DateDaysSaid : Prop := dateDaysRow.holds Try.pinned (OpenSpec.ofChange dateDaysSpec)

/-- ITS FALSE NEIGHBOUR: 'it returns false'. Refute it at one input. -/
def dateDaysWrong : ChangeSpec := { name := "dateDays", fn := fun _ => fun
  | [d1, d2] => { results := [.lit (.bool false)], args := [d1, d2] }
  | _ => none }
def DateDaysWrongFalsely : Prop := dateDaysRow.holds Try.pinned (OpenSpec.ofChange dateDaysWrong)

/-- 'pigeonholelaw16.DateDayBack': WHATEVER THE INPUT: true; the input reads as it did. -/
def dateDayBackSpec : ChangeSpec := { name := "dateDayBack", fn := fun _ => fun
  | [d1, d2] => { results := [.lit (.bool true)], args := [d1, d2] }
  | _ => none }
def dateDayBackRow : OpenClaim := { program := "ytbaocindligcmaa", sum := "d0953250d67fe532e43a5e2fbe938a7232f014e0028fe593dc5b3c06d4533091", func := "pigeonhole/pigeonholelaw16.DateDayBack", spec := "dateDayBack", unfollowed := true, recurses := true, apart := false }
def DateDayBackSaid : Prop := dateDayBackRow.holds Try.pinned (OpenSpec.ofChange dateDayBackSpec)

/-- ITS FALSE NEIGHBOUR: 'it returns false'. Refute it at one input. -/
def dateDayBackWrong : ChangeSpec := { name := "dateDayBack", fn := fun _ => fun
  | [d1, d2] => { results := [.lit (.bool false)], args := [d1, d2] }
  | _ => none }
def DateDayBackWrongFalsely : Prop := dateDayBackRow.holds Try.pinned (OpenSpec.ofChange dateDayBackWrong)

/-- 'pigeonholelaw16.DateNext': WHATEVER THE INPUT: true; the input reads as it did. -/
def dateNextSpec : ChangeSpec := { name := "dateNext", fn := fun _ => fun
  | [d] => { results := [.lit (.bool true)], args := [d] }
  | _ => none }
def dateNextRow : OpenClaim := { program := "ytbaocindligcmaa", sum := "d0953250d67fe532e43a5e2fbe938a7232f014e0028fe593dc5b3c06d4533091", func := "pigeonhole/pigeonholelaw16.DateNext", spec := "dateNext", unfollowed := true, recurses := true, apart := false }
def DateNextSaid : Prop := dateNextRow.holds Try.pinned (OpenSpec.ofChange dateNextSpec)

/-- ITS FALSE NEIGHBOUR: 'it returns false'. Refute it at one input. -/
def dateNextWrong : ChangeSpec := { name := "dateNext", fn := fun _ => fun
  | [d] => { results := [.lit (.bool false)], args := [d] }
  | _ => none }
def DateNextWrongFalsely : Prop := dateNextRow.holds Try.pinned (OpenSpec.ofChange dateNextWrong)

/-- 'pigeonholelaw16.DatePrints': WHATEVER THE INPUT: true; the input reads as it did. -/
def datePrintsSpec : ChangeSpec := { name := "datePrints", fn := fun _ => fun
  | [d] => { results := [.lit (.bool true)], args := [d] }
  | _ => none }
def datePrintsRow : OpenClaim := { program := "ytbaocindligcmaa", sum := "d0953250d67fe532e43a5e2fbe938a7232f014e0028fe593dc5b3c06d4533091", func := "pigeonhole/pigeonholelaw16.DatePrints", spec := "datePrints", unfollowed := true, recurses := true, apart := false }
def DatePrintsSaid : Prop := datePrintsRow.holds Try.pinned (OpenSpec.ofChange datePrintsSpec)

/-- ITS FALSE NEIGHBOUR: 'it returns false'. Refute it at one input. -/
def datePrintsWrong : ChangeSpec := { name := "datePrints", fn := fun _ => fun
  | [d] => { results := [.lit (.bool false)], args := [d] }
  | _ => none }
def DatePrintsWrongFalsely : Prop := datePrintsRow.holds Try.pinned (OpenSpec.ofChange datePrintsWrong)

/-- 'pigeonholelaw16.DateBack': WHATEVER THE INPUT: true; the input reads as it did. -/
def dateBackSpec : ChangeSpec := { name := "dateBack", fn := fun _ => fun
  | [d] => { results := [.lit (.bool true)], args := [d] }
  | _ => none }
def dateBackRow : OpenClaim := { program := "ytbaocindligcmaa", sum := "d0953250d67fe532e43a5e2fbe938a7232f014e0028fe593dc5b3c06d4533091", func := "pigeonhole/pigeonholelaw16.DateBack", spec := "dateBack", unfollowed := true, recurses := true, apart := false }
def DateBackSaid : Prop := dateBackRow.holds Try.pinned (OpenSpec.ofChange dateBackSpec)

/-- ITS FALSE NEIGHBOUR: 'it returns false'. Refute it at one input. -/
def dateBackWrong : ChangeSpec := { name := "dateBack", fn := fun _ => fun
  | [d] => { results := [.lit (.bool false)], args := [d] }
  | _ => none }
def DateBackWrongFalsely : Prop := dateBackRow.holds Try.pinned (OpenSpec.ofChange dateBackWrong)

/- THE SECOND FORM. 'bulk': how many values and letters a reading holds, each counted each time it is reached (what is shared counts as often as it is met; a slice's spare places count too). A statement '..UptoSaid' is the law's where the arguments, and the package variables that the reading takes, are together of bulk at most 1048576: NARROWER than '..Said'. Prove '..Said' where nothing that the law and all that it calls make is longer than what came in: it says more and counts as full. Else prove '..UptoSaid'. A law counts once. -/
mutual
def uptoBulk {H : Type} : DataW H → Nat
  | .lit (.string bytes) => bytes.length + 1
  | .lit _ => 1
  | .nil => 1
  | .ptr d => uptoBulk d + 1
  | .slice elems spare => uptoBulkAll elems + uptoBulkAll spare + 1
  | .agg parts => uptoBulkAll parts + 1
  | .iface _ d => uptoBulk d + 1
  | .map entries => uptoBulkEntries entries + 1
  | .held _ => 1
def uptoBulkAll {H : Type} : List (DataW H) → Nat
  | [] => 0
  | d :: r => uptoBulk d + uptoBulkAll r
def uptoBulkEntries {H : Type} : List (Lit × DataW H) → Nat
  | [] => 0
  | x :: r => uptoBulkEntry x + uptoBulkEntries r
def uptoBulkEntry {H : Type} : Lit × DataW H → Nat
  | (.string bytes, d) => bytes.length + uptoBulk d + 1
  | (_, d) => uptoBulk d + 1
 end
def uptoSmall : (H : Type) → List (DataW H) → Bool := fun _ ds => decide (uptoBulkAll ds ≤ 1048576)
def OpenSpec.upto (s : _root_.Go.ChangeSpec) : _root_.Go.OpenSpec := { _root_.Go.OpenSpec.ofChange s with cond := some uptoSmall }

/-- 'pigeonholelaw16.DateDays', WHERE WHAT IT READS IS OF BULK AT MOST 1048576: true; the input reads as it did. -/
def dateDaysUptoRow : OpenClaim := { program := "ytbaocindligcmaa", sum := "d0953250d67fe532e43a5e2fbe938a7232f014e0028fe593dc5b3c06d4533091", func := "pigeonhole/pigeonholelaw16.DateDays", spec := "dateDays", unfollowed := true, recurses := true, apart := false, narrowed := true }
def DateDaysUptoSaid : Prop := dateDaysUptoRow.holds Try.pinned (OpenSpec.upto dateDaysSpec)

/-- 'pigeonholelaw16.DateDayBack', WHERE WHAT IT READS IS OF BULK AT MOST 1048576: true; the input reads as it did. -/
def dateDayBackUptoRow : OpenClaim := { program := "ytbaocindligcmaa", sum := "d0953250d67fe532e43a5e2fbe938a7232f014e0028fe593dc5b3c06d4533091", func := "pigeonhole/pigeonholelaw16.DateDayBack", spec := "dateDayBack", unfollowed := true, recurses := true, apart := false, narrowed := true }
def DateDayBackUptoSaid : Prop := dateDayBackUptoRow.holds Try.pinned (OpenSpec.upto dateDayBackSpec)

/-- 'pigeonholelaw16.DateNext', WHERE WHAT IT READS IS OF BULK AT MOST 1048576: true; the input reads as it did. -/
def dateNextUptoRow : OpenClaim := { program := "ytbaocindligcmaa", sum := "d0953250d67fe532e43a5e2fbe938a7232f014e0028fe593dc5b3c06d4533091", func := "pigeonhole/pigeonholelaw16.DateNext", spec := "dateNext", unfollowed := true, recurses := true, apart := false, narrowed := true }
def DateNextUptoSaid : Prop := dateNextUptoRow.holds Try.pinned (OpenSpec.upto dateNextSpec)

/-- 'pigeonholelaw16.DatePrints', WHERE WHAT IT READS IS OF BULK AT MOST 1048576: true; the input reads as it did. -/
def datePrintsUptoRow : OpenClaim := { program := "ytbaocindligcmaa", sum := "d0953250d67fe532e43a5e2fbe938a7232f014e0028fe593dc5b3c06d4533091", func := "pigeonhole/pigeonholelaw16.DatePrints", spec := "datePrints", unfollowed := true, recurses := true, apart := false, narrowed := true }
def DatePrintsUptoSaid : Prop := datePrintsUptoRow.holds Try.pinned (OpenSpec.upto datePrintsSpec)

/-- 'pigeonholelaw16.DateBack', WHERE WHAT IT READS IS OF BULK AT MOST 1048576: true; the input reads as it did. -/
def dateBackUptoRow : OpenClaim := { program := "ytbaocindligcmaa", sum := "d0953250d67fe532e43a5e2fbe938a7232f014e0028fe593dc5b3c06d4533091", func := "pigeonhole/pigeonholelaw16.DateBack", spec := "dateBack", unfollowed := true, recurses := true, apart := false, narrowed := true }
def DateBackUptoSaid : Prop := dateBackUptoRow.holds Try.pinned (OpenSpec.upto dateBackSpec)

end Rows
end Go.Proofs.Ytbaocindligcmaa
