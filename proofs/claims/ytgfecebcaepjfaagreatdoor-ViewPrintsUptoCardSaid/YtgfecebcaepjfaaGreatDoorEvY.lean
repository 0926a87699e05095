/- Functions of the library that are told by their contracts. -/
import Derived.Test.YtgfecebcaepjfaaGreatDoorEvX
import Derived.Shelf.Unicode.DecodeAny
namespace Go.Ev
open Go

def nvDecode : List AV → Option AV
  | [.s l] => some (.tup [.i .i32 ((Lib.decodeGo ⟨l.toArray⟩).1 : Nat), .i .i64 ((Lib.decodeGo ⟨l.toArray⟩).2 : Nat)])
  | _ => none

theorem nvDecode_ok {P : Program} {f : FuncId} {g3 g4 : Nat} (hen : Enters P f) (h3 : globAt P "unicode/utf8.first" = some g3) (h4 : globAt P "unicode/utf8.acceptRanges" = some g4)
    (hc : ∀ s w, Lib.Utf8Tabs g3 g4 w → Calls P f #[.string s] w fun e w' => e = .returned (.tuple #[.int .i32 (Lib.decodeGo s).1, .int .i64 (Lib.decodeGo s).2]) ∧ RowKit.Below w.heap.size w w') : YOK P f nvDecode := by
  refine .inr ⟨hen, fun args v h w N μ H vals ht hr => ?_⟩
  unfold nvDecode at h
  split at h
  · rename_i l
    simp only [Option.some.injEq] at h
    subst h
    simp only [RelVs, RelV] at hr
    obtain ⟨_, _, rfl, rfl, rfl⟩ := hr
    refine (hc _ w (ht.1 g3 g4 h3 h4)).mono fun e w' ⟨he, bel⟩ => ⟨_, he, fun w1 N1 μ1 H1 => ?_, bel⟩
    simp only [RelV, RelVs]
    exact ⟨_, rfl, _, _, rfl, rfl, _, _, rfl, rfl, rfl⟩
  · cases h

end Go.Ev
