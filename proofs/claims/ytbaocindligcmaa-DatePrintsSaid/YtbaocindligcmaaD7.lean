/- The laws of days. -/
import Derived.Test.YtbaocindligcmaaD6
import Derived.Test.YtbaocindligcmaaL1
namespace Go.Dt
open Go Go.Ev

theorem week_eq (n : Int) : ∃ k, F13 ((n, ()), ()) = some (k, ()) ∧ F14 ((n, ()), ()) = some (k, ()) ∧ 0 ≤ k ∧ k ≤ 6 ∧ (n + 3 - k) % 7 = 0 := by
  have h1 : -7 < n.tmod 7 := Int.lt_tmod_of_pos n (by omega)
  have h2 : n.tmod 7 < 7 := Int.tmod_lt_of_pos n (by omega)
  have h3 : (n - n.tmod 7) % 7 = 0 := by
    have := Int.mul_tdiv_add_tmod n 7
    omega
  generalize hr : n.tmod 7 = r at *
  simp only [F13, F14, hr]
  have hr' : r = -6 ∨ r = -5 ∨ r = -4 ∨ r = -3 ∨ r = -2 ∨ r = -1 ∨ r = 0 ∨ r = 1 ∨ r = 2 ∨ r = 3 ∨ r = 4 ∨ r = 5 ∨ r = 6 := by omega
  clear hr
  rcases hr' with rfl | rfl | rfl | rfl | rfl | rfl | rfl | rfl | rfl | rfl | rfl | rfl | rfl
  · exact ⟨4, rfl, rfl, by omega, by omega, by omega⟩
  · exact ⟨5, rfl, rfl, by omega, by omega, by omega⟩
  · exact ⟨6, rfl, rfl, by omega, by omega, by omega⟩
  · exact ⟨0, rfl, rfl, by omega, by omega, by omega⟩
  · exact ⟨1, rfl, rfl, by omega, by omega, by omega⟩
  · exact ⟨2, rfl, rfl, by omega, by omega, by omega⟩
  · exact ⟨3, rfl, rfl, by omega, by omega, by omega⟩
  · exact ⟨4, rfl, rfl, by omega, by omega, by omega⟩
  · exact ⟨5, rfl, rfl, by omega, by omega, by omega⟩
  · exact ⟨6, rfl, rfl, by omega, by omega, by omega⟩
  · exact ⟨0, rfl, rfl, by omega, by omega, by omega⟩
  · exact ⟨1, rfl, rfl, by omega, by omega, by omega⟩
  · exact ⟨2, rfl, rfl, by omega, by omega, by omega⟩

theorem days (y m d : Int) : (Valid y m d ∧ F8 (((y, m, d, ()), ()), ()) = some ((num y m d, 0, ()), ()) ∧ F9 (((y, m, d, ()), ()), ()) = some ((num y m d, 0, ()), ())) ∨
    (¬ Valid y m d ∧ F8 (((y, m, d, ()), ()), ()) = some ((0, 2, ()), ()) ∧ F9 (((y, m, d, ()), ()), ()) = some ((0, 2, ()), ())) := by
  by_cases h : Valid y m d
  · exact .inl ⟨h, F8_eq h, F9_eq h⟩
  · exact .inr ⟨h, F8_bad h, F9_bad h⟩

/-- DateDays is true. -/
theorem law3 (y m d n : Int) : F3 (((y, m, d, ()), n, ()), ()) = some (true, ()) := by
  obtain ⟨k, k1, k2, _⟩ := week_eq n
  have h1 : ∃ a b, F8 (((y, m, d, ()), ()), ()) = some ((a, b, ()), ()) ∧ F9 (((y, m, d, ()), ()), ()) = some ((a, b, ()), ()) := by
    rcases days y m d with ⟨_, h1, h2⟩ | ⟨_, h1, h2⟩
    · exact ⟨_, _, h1, h2⟩
    · exact ⟨_, _, h1, h2⟩
  have h2 : ∃ y m d b, F10 ((n, ()), ()) = some (((y, m, d, ()), b, ()), ()) ∧ F11 ((n, ()), ()) = some (((y, m, d, ()), b, ()), ()) := by
    rcases civil n with ⟨y, m, d, _, _, h1, h2⟩ | ⟨h1, h2⟩
    · exact ⟨_, _, _, _, h1, h2⟩
    · exact ⟨_, _, _, _, h1, h2⟩
  obtain ⟨a, b, e1, e2⟩ := h1
  obtain ⟨y', m', d', b', e3, e4⟩ := h2
  simp only [F3, e1, e2, e3, e4, live12, k1, k2, Option.bind_some, decide_true, Bool.and_self, cond_true]

/-- What a day's number leads to is the day. -/
theorem back {y m d : Int} (h : Valid y m d) : F10 ((num y m d, ()), ()) = some (((y, m, d, ()), 0, ()), ()) := by
  have h1 := F11_eq h rfl
  rcases civil (num y m d) with ⟨y', m', d', _, _, h2, h3⟩ | ⟨_, h3⟩
  · rw [h1] at h3
    rw [h2, ← h3]
  · rw [h1] at h3
    simp at h3

/-- DateDayBack is true. -/
theorem law4 (y m d n : Int) : F4 (((y, m, d, ()), n, ()), ()) = some (true, ()) := by
  have part2 : ∃ y2 m2 d2 b2 a3 b3, F10 ((n, ()), ()) = some (((y2, m2, d2, ()), b2, ()), ()) ∧ F8 (((y2, m2, d2, ()), ()), ()) = some ((a3, b3, ()), ()) ∧ (!decide (b2 = 0) || decide (b3 = 0) && decide (a3 = n)) = true := by
    rcases civil n with ⟨y2, m2, d2, h1, h2, h3, _⟩ | ⟨h3, _⟩
    · exact ⟨_, _, _, _, _, _, h3, F8_eq h1, by rw [h2]; simp⟩
    · refine ⟨_, _, _, _, _, _, h3, F8_bad (fun h => by have := h.y1; omega), by simp⟩
  obtain ⟨y2, m2, d2, b2, a3, b3, e3, e4, e5⟩ := part2
  rcases days y m d with ⟨h1, h2, _⟩ | ⟨h1, h2, _⟩
  · have h4 := back h1
    simp only [F4, h2, h4, e3, e4, live12, Option.bind_some]
    simp only [decide_true, Bool.not_true, Bool.false_or, Bool.and_self, e5]
  · obtain ⟨y4, m4, d4, b4, h4⟩ : ∃ y m d b, F10 (((0 : Int), ()), ()) = some (((y, m, d, ()), b, ()), ()) := by
      rcases civil 0 with ⟨_, _, _, _, _, h, _⟩ | ⟨h, _⟩
      · exact ⟨_, _, _, _, h⟩
      · exact ⟨_, _, _, _, h⟩
    simp only [F4, h2, h4, e3, e4, live12, Option.bind_some]
    rw [e5]
    simp

end Go.Dt
