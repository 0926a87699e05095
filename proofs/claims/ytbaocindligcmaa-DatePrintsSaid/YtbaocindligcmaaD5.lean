/- A number's day. -/
import Derived.Test.YtbaocindligcmaaD4
namespace Go.Dt
open Go Go.Ev

theorem F28_eq : F28 ((), ()) = some ((-719162, 2932896, ()), ()) := by kernel_rfl

theorem F10_out {n : Int} (h : n < -719162 ∨ 2932896 < n) : F10 ((n, ()), ()) = some (((0, 0, 0, ()), 2, ()), ()) := by
  have hc : (decide (n < -719162) || decide (2932896 < n)) = true := by simpa using h
  simp only [F10, F28_eq, Option.bind_some, hc, cond_true]

theorem ahead_next (y : Int) : ahead (y + 1) = ahead y + 365 + lp y := by
  have := lp_spec y
  unfold ahead
  omega

theorem ahead_era {yoe era : Int} (h : 0 ≤ yoe) (h2 : yoe ≤ 399) : ahead (yoe + 400 * era + 1) = 146097 * era + (365 * yoe + yoe / 4 - yoe / 100) := by
  unfold ahead
  omega

theorem num_hi {yoe era doy mp d : Int} (h : 0 ≤ yoe) (h2 : yoe ≤ 399) (hd : doy - (153 * mp + 2) / 5 + 1 = d) (h3 : 0 ≤ mp) (h4 : mp ≤ 9) :
    num (yoe + 400 * era) (mp + 3) d = era * 146097 + (365 * yoe + yoe / 4 - yoe / 100) + doy - 719468 := by
  have h5 := ahead_next (yoe + 400 * era)
  rw [ahead_era h h2] at h5
  unfold num
  rw [cum_hi (by omega) (by omega), Int.add_sub_cancel]
  generalize (365 * yoe + yoe / 4 - yoe / 100) = a at *
  generalize (153 * mp + 2) / 5 = b at *
  omega

theorem num_lo {yoe era doy mp d : Int} (h : 0 ≤ yoe) (h2 : yoe ≤ 399) (hd : doy - (153 * mp + 2) / 5 + 1 = d) (h3 : 10 ≤ mp) (h4 : mp ≤ 11) :
    num (yoe + 400 * era + 1) (mp + 3 - 12) d = era * 146097 + (365 * yoe + yoe / 4 - yoe / 100) + doy - 719468 := by
  have h5 := ahead_era (yoe := yoe) (era := era) h h2
  unfold num
  rw [cum_lo (by omega) (by omega), h5, show mp + 3 - 12 + 9 = mp by omega]
  generalize (365 * yoe + yoe / 4 - yoe / 100) = a at *
  generalize (153 * mp + 2) / 5 = b at *
  omega

theorem day_hi {y doy mp d : Int} (h : 0 ≤ doy) (h2 : doy ≤ 365) (hmp : (5 * doy + 2) / 153 = mp) (hd : doy - (153 * mp + 2) / 5 + 1 = d) (h4 : mp ≤ 9) : 1 ≤ d ∧ d ≤ long y (mp + 3) := by
  have hm : mp = 0 ∨ mp = 1 ∨ mp = 2 ∨ mp = 3 ∨ mp = 4 ∨ mp = 5 ∨ mp = 6 ∨ mp = 7 ∨ mp = 8 ∨ mp = 9 := by omega
  obtain ⟨l1, l2, l3⟩ := long_eq y (mp + 3)
  rcases hm with rfl | rfl | rfl | rfl | rfl | rfl | rfl | rfl | rfl | rfl <;> first
    | (rw [l3 (by omega)]; omega)
    | (rw [l2 (by omega)]; omega)

theorem day_lo {y doy mp d : Int} (h : 0 ≤ doy) (h2 : doy ≤ 365) (h5 : doy ≤ 364 ∨ lp y = 1) (hmp : (5 * doy + 2) / 153 = mp) (hd : doy - (153 * mp + 2) / 5 + 1 = d) (h4 : 10 ≤ mp) : mp ≤ 11 ∧ 1 ≤ d ∧ d ≤ long y (mp + 3 - 12) := by
  have hm : mp = 10 ∨ mp = 11 := by omega
  obtain ⟨l1, l2, l3⟩ := long_eq y (mp + 3 - 12)
  have hl := lp_spec y
  have hl' : 0 ≤ lp y := by rcases hl with h | h <;> omega
  clear hl
  rcases hm with rfl | rfl
  · rw [l3 (by omega)]; omega
  · rw [l1 (by omega)]; omega

theorem F10_eq {n : Int} (h : -719162 ≤ n) (h2 : n ≤ 2932896) : ∃ y m d, Valid y m d ∧ num y m d = n ∧ F10 ((n, ()), ()) = some (((y, m, d, ()), 0, ()), ()) := by
  have hc : (decide (n < -719162) || decide (2932896 < n)) = false := by
    rw [Bool.or_eq_false_iff]
    constructor <;> simp <;> omega
  unfold F10
  rw [F28_eq, Option.bind_some]
  simp only [hc, cond_false]
  generalize hz : n + 719468 = z
  rw [w64_id (n := z) (by omega) (by omega), F26_eq (by omega) (by omega) (by omega) (by omega), Option.bind_some]
  generalize hera : z / 146097 = era
  generalize hdoe : z - era * 146097 = doe
  have hd0 : 0 ≤ doe := by omega
  have hd1 : doe ≤ 146096 := by omega
  have e1 : w64 (z - w64 (era * 146097)) = doe := by
    rw [w64_id (n := era * 146097) (by omega) (by omega), w64_id (by omega) (by omega), hdoe]
  simp only [e1]
  generalize hyoe : (doe - doe / 1460 + doe / 36524 - doe / 146096) / 365 = yoe
  have e2 : w64 (Int.tdiv (w64 (w64 (w64 (doe - w64 (Int.tdiv doe 1460)) + w64 (Int.tdiv doe 36524)) - w64 (Int.tdiv doe 146096))) 365) = yoe := by
    simp (disch := omega) only [w64_id, tdiv_nn]
    exact hyoe
  obtain ⟨y0, y1, y2, y3⟩ := Dt.era hd0 hd1 hyoe.symm
  generalize hdoy : doe - (365 * yoe + yoe / 4 - yoe / 100) = doy at y2 y3
  have e3 : w64 (doe - w64 (w64 (w64 (365 * yoe) + w64 (Int.tdiv yoe 4)) - w64 (Int.tdiv yoe 100))) = doy := by
    simp (disch := omega) only [w64_id, tdiv_nn]
    exact hdoy
  have hdoy1 : doy ≤ 365 := by omega
  generalize hmp : (5 * doy + 2) / 153 = mp
  have e4 : w64 (Int.tdiv (w64 (w64 (5 * doy) + 2)) 153) = mp := by
    simp (disch := omega) only [w64_id, tdiv_nn]
    exact hmp
  generalize hd : doy - (153 * mp + 2) / 5 + 1 = d
  have e5 : w64 (w64 (doy - w64 (Int.tdiv (w64 (w64 (153 * mp) + 2)) 5)) + 1) = d := by
    simp (disch := omega) only [w64_id, tdiv_nn]
    exact hd
  rw [e2, Option.bind_some]
  simp only [e3]
  rw [Option.bind_some]
  simp only [e4]
  rw [Option.bind_some]
  simp only [e5]
  have e6 : w64 (mp + 3) = mp + 3 := w64_id (by omega) (by omega)
  have e7 : w64 (yoe + w64 (400 * era)) = yoe + 400 * era := by
    rw [w64_id (n := 400 * era) (by omega) (by omega), w64_id (by omega) (by omega)]
  rw [e6, e7, Option.bind_some, Option.bind_some]
  have hn : n = era * 146097 + (365 * yoe + yoe / 4 - yoe / 100) + doy - 719468 := by
    generalize (365 * yoe + yoe / 4 - yoe / 100) = a at *
    omega
  have hera0 : 0 ≤ era := by omega
  have hera1 : era ≤ 24 := by omega
  have hmp0 : 0 ≤ mp := by omega
  have hmp1 : mp ≤ 11 := by omega
  have hy9 : -719162 ≤ n ∧ n ≤ 2932896 := ⟨h, h2⟩
  clear e1 e2 e3 e4 e5 hyoe hdoy hdoe hera hz
  have hlast : era = 24 → 365 * yoe + yoe / 4 - yoe / 100 + doy ≤ 146036 := by omega
  by_cases h12 : 12 < mp + 3
  · have hc2 : decide (12 < mp + 3) = true := by simpa using h12
    have hl := lp_spec (yoe + 400 * era + 1)
    have hlp : doy ≤ 364 ∨ lp (yoe + 400 * era + 1) = 1 := by
      rcases y3 with y3 | ⟨_, y3⟩
      · exact .inl y3
      · right
        rcases hl with hl | ⟨_, hl⟩
        · exact hl.1
        · exfalso; omega
    obtain ⟨k1, k2, k3⟩ := day_lo (y := yoe + 400 * era + 1) y2 hdoy1 hlp hmp hd (by omega)
    have hyy : yoe + 400 * era + 1 ≤ 9999 := by
      by_cases he : era = 24
      · have := hlast he
        subst he
        clear hl hlp hn hlast y3
        omega
      · omega
    simp only [hc2, cond_true, Option.bind_some]
    refine ⟨yoe + 400 * era + 1, mp + 3 - 12, d, ⟨by omega, hyy, by omega, by omega, k2, k3⟩, ?_, ?_⟩
    · rw [num_lo y0 y1 hd (by omega) k1, hn]
    · rw [w64_id (n := yoe + 400 * era + 1) (by omega) (by omega), w64_id (n := mp + 3 - 12) (by omega) (by omega)]
  · have hc2 : decide (12 < mp + 3) = false := by simpa using h12
    obtain ⟨k2, k3⟩ := day_hi (y := yoe + 400 * era) y2 hdoy1 hmp hd (by omega)
    have hy1 : 1 ≤ yoe + 400 * era := by
      by_cases he : era = 0
      · subst he
        have : 306 ≤ (365 * yoe + yoe / 4 - yoe / 100) + doy := by omega
        clear hn hlast y3
        by_cases hy : yoe = 0
        · subst hy
          simp at this
          omega
        · omega
      · omega
    have hyy : yoe + 400 * era ≤ 9999 := by omega
    simp only [hc2, cond_false, Option.bind_some]
    refine ⟨yoe + 400 * era, mp + 3, d, ⟨hy1, hyy, by omega, by omega, k2, k3⟩, ?_, rfl⟩
    rw [num_hi y0 y1 hd hmp0 (by omega), hn]

end Go.Dt
