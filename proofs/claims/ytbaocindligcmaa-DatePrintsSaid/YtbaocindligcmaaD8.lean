/- The next day. -/
import Derived.Test.YtbaocindligcmaaD7
namespace Go.Dt
open Go Go.Ev

theorem F15_eq {y m d : Int} : ∃ b, F15 (((y, m, d, ()), ()), ()) = some (b, ()) ∧ (b = true ↔ Valid y m d) := by
  obtain ⟨b, _, h2, h3⟩ := @F25_eq y m d
  exact ⟨b, h2, h3⟩

theorem F8_any (y m d : Int) : ∃ a b, F8 (((y, m, d, ()), ()), ()) = some ((a, b, ()), ()) := by
  rcases days y m d with ⟨_, h1, _⟩ | ⟨_, h1, _⟩
  · exact ⟨_, _, h1⟩
  · exact ⟨_, _, h1⟩

/-- The number behind the last of a month, and of a year. -/
theorem num_month {y m : Int} (h : 1 ≤ m) (h2 : m ≤ 11) : num y (m + 1) 1 = num y m (long y m) + 1 := by
  unfold num
  rw [cum_step h h2]
  omega

theorem num_year {y : Int} : num (y + 1) 1 1 = num y 12 31 + 1 := by
  unfold num
  rw [ahead_next]
  have : cum y 12 = 334 + lp y := by simp [cum]
  have h1 : cum (y + 1) 1 = 0 := by simp [cum]
  rw [this, h1]
  omega

theorem long_12 (y : Int) : long y 12 = 31 := by simp [long]

theorem week_next (n : Int) : ∃ a b, F13 ((n, ()), ()) = some (a, ()) ∧ F13 ((n + 1, ()), ()) = some (b, ()) ∧ b = (w64 (a + 1)).tmod 7 := by
  obtain ⟨a, h1, _, h3, h4, h5⟩ := week_eq n
  obtain ⟨b, g1, _, g3, g4, g5⟩ := week_eq (n + 1)
  refine ⟨a, b, h1, g1, ?_⟩
  rw [w64_id (by omega) (by omega), tmod_nn (by omega)]
  omega

theorem num_bd {y m d : Int} (h : Valid y m d) : -1000000000 ≤ num y m d ∧ num y m d ≤ 1000000000 := by
  obtain ⟨a1, a2, a3, a4, a5, a6⟩ := h
  have := @cum_bd y m a3 a4
  have := long_le y m
  have hah : 0 ≤ ahead y ∧ ahead y ≤ 3651694 := by unfold ahead; omega
  unfold num
  omega

/-- DateNext is true. -/
theorem law5 (y m d : Int) : F5 (((y, m, d, ()), ()), ()) = some (true, ()) := by
  rcases days y m d with ⟨hv, h1, _⟩ | ⟨hv, h1, _⟩
  · obtain ⟨a1, a2, a3, a4, a5, a6⟩ := hv
    have hv : Valid y m d := ⟨a1, a2, a3, a4, a5, a6⟩
    have hl31 := long_le y m
    have hl28 := long_ge y m
    have hbd := num_bd hv
    obtain ⟨wa, wb, w1, w2, w3⟩ := week_next (num y m d)
    have wn : w64 (num y m d + 1) = num y m d + 1 := w64_id (by omega) (by omega)
    simp only [F5, h1, Option.bind_some, decide_true, Bool.not_true, cond_false, F16_eq a1 a3 a4, live12]
    rw [w64_id (n := d + 1) (by omega) (by omega)]
    by_cases hd : long y m < d + 1
    · have hdd : d = long y m := by omega
      have hc : decide (long y m < d + 1) = true := by simpa using hd
      simp only [hc, cond_true, Option.bind_some]
      rw [w64_id (n := m + 1) (by omega) (by omega)]
      by_cases hm : 12 < m + 1
      · have hmm : m = 12 := by omega
        have hc2 : decide (12 < m + 1) = true := by simpa using hm
        simp only [hc2, cond_true, Option.bind_some]
        rw [w64_id (n := y + 1) (by omega) (by omega)]
        by_cases hy : 9999 < y + 1
        · have hc3 : decide (9999 < y + 1) = true := by simpa using hy
          have hbad : ¬ Valid (y + 1) 1 1 := fun h => by have := h.y2; omega
          simp only [F8_bad hbad, Option.bind_some, hc3, cond_true, decide_true, Bool.and_self]
        · have hc3 : decide (9999 < y + 1) = false := by simpa using hy
          have hgood : Valid (y + 1) 1 1 := ⟨by omega, by omega, by omega, by omega, by omega, by have := long_ge (y + 1) 1; omega⟩
          have hn : num (y + 1) 1 1 = num y m d + 1 := by rw [num_year, hdd, hmm, long_12]
          simp only [F8_eq hgood, Option.bind_some, hc3, cond_false, hn, wn, decide_true, Bool.and_self, cond_true, w1, w2, ← w3]
      · have hc2 : decide (12 < m + 1) = false := by simpa using hm
        have hc3 : decide (9999 < y) = false := by simp; omega
        have hgood : Valid y (m + 1) 1 := ⟨by omega, by omega, by omega, by omega, by omega, by have := long_ge y (m + 1); omega⟩
        have hn : num y (m + 1) 1 = num y m d + 1 := by rw [num_month a3 (by omega), hdd]
        simp only [hc2, cond_false, Option.bind_some, F8_eq hgood, hc3, hn, wn, decide_true, Bool.and_self, cond_true, w1, w2, ← w3]
    · have hc : decide (long y m < d + 1) = false := by simpa using hd
      have hc2 : decide (12 < m) = false := by simp; omega
      have hc3 : decide (9999 < y) = false := by simp; omega
      have hgood : Valid y m (d + 1) := ⟨by omega, by omega, by omega, by omega, by omega, by omega⟩
      have hn : num y m (d + 1) = num y m d + 1 := by unfold num; omega
      simp only [hc, cond_false, Option.bind_some, hc2, F8_eq hgood, hc3, hn, wn, decide_true, Bool.and_self, cond_true, w1, w2, ← w3]
  · obtain ⟨b, h2, h3⟩ := @F15_eq y m d
    have hb : b = false := by cases b <;> simp_all
    subst hb
    have hz : decide ((2 : Int) = 0) = false := by decide
    simp only [F5, h1, Option.bind_some, hz, Bool.not_false, cond_true, live12, decide_true, Bool.and_self, h2]

end Go.Dt
