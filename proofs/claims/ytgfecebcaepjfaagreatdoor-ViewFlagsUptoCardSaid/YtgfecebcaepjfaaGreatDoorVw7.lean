/- Flags in words: the law, for what is not too much. -/
import Derived.Test.YtgfecebcaepjfaaGreatDoorVw6
import Derived.Test.YtgfecebcaepjfaaGreatDoorEvWb
namespace Go.Vw
open Go Go.Ev
set_option maxRecDepth 100000

theorem sum_count {α : Type} (g : α → Nat) (hg : ∀ x, 1 ≤ g x) : ∀ l : List α, l.length ≤ (l.map g).sum
  | [] => Nat.le_refl _
  | a :: l => by
    have := sum_count g hg l
    have := hg a
    simp only [List.length_cons, List.map_cons, List.sum_cons]
    omega

theorem sum_mem {α : Type} (g : α → Nat) : ∀ (l : List α) (x : α), x ∈ l → g x ≤ (l.map g).sum
  | [], x, h => by cases h
  | a :: l, x, h => by
    simp only [List.map_cons, List.sum_cons]
    rcases List.mem_cons.mp h with rfl | h
    · omega
    · have := sum_mem g l x h
      omega

theorem law3' (f : UInt8) (l : List (List UInt8)) (hz : sizD (.sl .str) l ≤ 1100000) : F3 ((f, l, ()), ()) = some (true, ()) := by
  have h1 : (List.map (sizD .str) l).sum ≤ 1100000 := hz
  have h2 := sum_count (sizD .str) (fun x => by simp only [sizD]; omega) l
  refine law3 f l (by omega) fun w hw => ?_
  have h3 := sum_mem (sizD .str) l w hw
  have h4 : w.length + 1 = sizD .str w := rfl
  omega

end Go.Vw
