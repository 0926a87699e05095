/- A day's number. -/
import Derived.Test.YtbaocindligcmaaD1
namespace Go.Dt
open Go Go.Ev

theorem lp_spec (y : Int) : (lp y = 1 ∧ ((y % 4 = 0 ∧ ¬ y % 100 = 0) ∨ y % 400 = 0)) ∨ (lp y = 0 ∧ ¬ ((y % 4 = 0 ∧ ¬ y % 100 = 0) ∨ y % 400 = 0)) := by
  unfold lp leap
  by_cases h : ((decide (y % 4 = 0) && !decide (y % 100 = 0)) || decide (y % 400 = 0)) = true
  · left
    rw [if_pos h]
    simpa using h
  · right
    rw [if_neg h]
    simpa using h

theorem F8_bad {y m d : Int} (h : ¬ Valid y m d) : F8 (((y, m, d, ()), ()), ()) = some ((0, 2, ()), ()) := by
  obtain ⟨b, h1, _, h3⟩ := @F25_eq y m d
  have hb : b = false := by cases b <;> simp_all
  simp only [F8, h1, hb, Option.bind_some, Bool.not_false, cond_true]

theorem F9_bad {y m d : Int} (h : ¬ Valid y m d) : F9 (((y, m, d, ()), ()), ()) = some ((0, 2, ()), ()) := by
  obtain ⟨b, _, h1, h3⟩ := @F25_eq y m d
  have hb : b = false := by cases b <;> simp_all
  simp only [F9, h1, hb, Option.bind_some, Bool.not_false, cond_true]

theorem cum_hi {y m : Int} (h : 3 ≤ m) (h2 : m ≤ 12) : cum y m = 59 + lp y + (153 * (m - 3) + 2) / 5 := by
  have hm : m = 3 ∨ m = 4 ∨ m = 5 ∨ m = 6 ∨ m = 7 ∨ m = 8 ∨ m = 9 ∨ m = 10 ∨ m = 11 ∨ m = 12 := by omega
  rcases hm with rfl | rfl | rfl | rfl | rfl | rfl | rfl | rfl | rfl | rfl <;> simp [cum] <;> omega
theorem cum_lo {y m : Int} (h : 1 ≤ m) (h2 : m < 3) : cum y m = (153 * (m + 9) + 2) / 5 - 306 := by
  have hm : m = 1 ∨ m = 2 := by omega
  rcases hm with rfl | rfl <;> simp [cum]

theorem F8_eq {y m d : Int} (h : Valid y m d) : F8 (((y, m, d, ()), ()), ()) = some ((num y m d, 0, ()), ()) := by
  obtain ⟨b, h1, _, h3⟩ := @F25_eq y m d
  have hb : b = true := h3.2 h
  have hd := long_le y m
  obtain ⟨a1, a2, a3, a4, a5, a6⟩ := h
  have hl := lp_spec y
  simp only [F8, h1, hb, Option.bind_some, Bool.not_true, cond_false]
  rw [w64_id (n := m - 3) (by omega) (by omega)]
  by_cases h3 : m - 3 < 0
  · have hc : decide (m - 3 < 0) = true := by simpa using h3
    simp only [hc, cond_true, Option.bind_some]
    rw [w64_id (n := y - 1) (by omega) (by omega), F26_eq (by omega) (by omega) (by omega) (by omega)]
    simp only [Option.bind_some]
    congr 3
    simp (disch := omega) only [w64_id, tdiv_nn]
    unfold num ahead
    rw [cum_lo a3 (by omega)]
    omega
  · have hc : decide (m - 3 < 0) = false := by simpa using h3
    simp only [hc, cond_false, Option.bind_some]
    rw [F26_eq (by omega) (by omega) (by omega) (by omega)]
    simp only [Option.bind_some]
    congr 3
    simp (disch := omega) only [w64_id, tdiv_nn]
    unfold num ahead
    rw [cum_hi (by omega) a4]
    omega

end Go.Dt
