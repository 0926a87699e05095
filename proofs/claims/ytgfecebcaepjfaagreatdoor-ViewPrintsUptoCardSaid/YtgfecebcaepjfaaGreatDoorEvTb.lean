/- The tables that a program's variables hold. -/
import Derived.Test.YtgfecebcaepjfaaGreatDoorEv2
import Derived.Lib.DecodeN
namespace Go.Ev
open Go

def globAt (P : Program) (name : String) : Option Nat := P.globals.findIdx? (·.name == name)

/-- the two tables of unicode/utf8 -/
def utf8At (g3 g4 : Nat) (w : World) : Prop :=
  (∀ c, c < 256 → w.cell? ⟨g3, c, none⟩ = some (.int .u8 (Lib.firstT c))) ∧
  (∀ i, i < 16 → w.cell? ⟨g4, 2 * i, none⟩ = some (.int .u8 (Lib.accLo i)) ∧ w.cell? ⟨g4, 2 * i + 1, none⟩ = some (.int .u8 (Lib.accHi i)))

/-- internal/bytealg.MaxLen holds a number -/
def maxAt (g : Nat) (w : World) : Prop := ∃ m, w.cell? ⟨g, 0, none⟩ = some (.int .i64 m)

/-- What the program's tables hold. -/
def tabsOf (P : Program) : Tb where
  tab := fun w => (∀ g3 g4, globAt P "unicode/utf8.first" = some g3 → globAt P "unicode/utf8.acceptRanges" = some g4 → utf8At g3 g4 w) ∧ ∀ g, globAt P "internal/bytealg.MaxLen" = some g → maxAt g w
  out := fun g => (∃ g3 g4, globAt P "unicode/utf8.first" = some g3 ∧ globAt P "unicode/utf8.acceptRanges" = some g4 ∧ (g = g3 ∨ g = g4)) ∨ globAt P "internal/bytealg.MaxLen" = some g
  stays := fun w w' h ⟨ht, hm⟩ => ⟨fun g3 g4 h3 h4 => by
    obtain ⟨t1, t2⟩ := ht g3 g4 h3 h4
    have e3 := h g3 (.inl ⟨g3, g4, h3, h4, .inl rfl⟩)
    have e4 := h g4 (.inl ⟨g3, g4, h3, h4, .inr rfl⟩)
    exact ⟨fun c hc => by rw [cell?_of_heap e3]; exact t1 c hc, fun i hi => ⟨by rw [cell?_of_heap e4]; exact (t2 i hi).1, by rw [cell?_of_heap e4]; exact (t2 i hi).2⟩⟩, fun g hg => by
    obtain ⟨m, h1⟩ := hm g hg
    exact ⟨m, by rw [cell?_of_heap (h g (.inr hg))]; exact h1⟩⟩
  lt := fun w g ⟨ht, hm⟩ hg => by
    rcases hg with ⟨g3, g4, h3, h4, hg⟩ | hg
    · obtain ⟨t1, t2⟩ := ht g3 g4 h3 h4
      rcases hg with rfl | rfl
      · exact World.block_lt_of_cell? w _ (t1 0 (by omega))
      · exact World.block_lt_of_cell? w _ (t2 0 (by omega)).1
    · obtain ⟨m, h1⟩ := hm g hg
      exact World.block_lt_of_cell? w _ h1

/-- A program without tables. -/
theorem tabs_none {P : Program} (h : globAt P "unicode/utf8.first" = none) (h2 : globAt P "internal/bytealg.MaxLen" = none) (w : World) : (tabsOf P).tab w := ⟨fun g3 g4 h3 _ => (by rw [h] at h3; cases h3), fun g hg => (by rw [h2] at hg; cases hg)⟩

/-- A program of which one number alone is asked. -/
theorem tabs_max {P : Program} {w : World} (h : globAt P "unicode/utf8.first" = none) (hm : ∀ g, globAt P "internal/bytealg.MaxLen" = some g → maxAt g w) : (tabsOf P).tab w := ⟨fun g3 g4 h3 _ => (by rw [h] at h3; cases h3), hm⟩

end Go.Ev
