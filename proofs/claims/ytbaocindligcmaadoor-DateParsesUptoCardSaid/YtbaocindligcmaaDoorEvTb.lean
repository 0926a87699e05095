/- The tables that a program's variables hold. -/
import Derived.Test.YtbaocindligcmaaDoorEv2
import Derived.Lib.DecodeN
namespace Go.Ev
open Go

def globAt (P : Program) (name : String) : Option Nat := P.globals.findIdx? (·.name == name)

/-- the two tables of unicode/utf8 -/
def utf8At (g3 g4 : Nat) (w : World) : Prop :=
  (∀ c, c < 256 → w.cell? ⟨g3, c, none⟩ = some (.int .u8 (Lib.firstT c))) ∧
  (∀ i, i < 16 → w.cell? ⟨g4, 2 * i, none⟩ = some (.int .u8 (Lib.accLo i)) ∧ w.cell? ⟨g4, 2 * i + 1, none⟩ = some (.int .u8 (Lib.accHi i)))

/-- What the program's tables hold. -/
def tabsOf (P : Program) : Tb where
  tab := fun w => ∀ g3 g4, globAt P "unicode/utf8.first" = some g3 → globAt P "unicode/utf8.acceptRanges" = some g4 → utf8At g3 g4 w
  out := fun g => ∃ g3 g4, globAt P "unicode/utf8.first" = some g3 ∧ globAt P "unicode/utf8.acceptRanges" = some g4 ∧ (g = g3 ∨ g = g4)
  stays := fun w w' h ht g3 g4 h3 h4 => by
    obtain ⟨t1, t2⟩ := ht g3 g4 h3 h4
    have e3 := h g3 ⟨g3, g4, h3, h4, .inl rfl⟩
    have e4 := h g4 ⟨g3, g4, h3, h4, .inr rfl⟩
    exact ⟨fun c hc => by rw [cell?_of_heap e3]; exact t1 c hc, fun i hi => ⟨by rw [cell?_of_heap e4]; exact (t2 i hi).1, by rw [cell?_of_heap e4]; exact (t2 i hi).2⟩⟩
  lt := fun w g ht ⟨g3, g4, h3, h4, hg⟩ => by
    obtain ⟨t1, t2⟩ := ht g3 g4 h3 h4
    rcases hg with rfl | rfl
    · exact World.block_lt_of_cell? w _ (t1 0 (by omega))
    · exact World.block_lt_of_cell? w _ (t2 0 (by omega)).1

/-- A program without tables. -/
theorem tabs_none {P : Program} (h : globAt P "unicode/utf8.first" = none) (w : World) : (tabsOf P).tab w := fun g3 g4 h3 _ => by rw [h] at h3; cases h3

end Go.Ev
