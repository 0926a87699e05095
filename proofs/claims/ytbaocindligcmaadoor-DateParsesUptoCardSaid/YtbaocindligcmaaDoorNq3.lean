/- The laws of days. -/
import Derived.Test.YtbaocindligcmaaDoorNq2
namespace Go.Dt
open Go Go.Ev

theorem week_eq (n : Int) : ∃ k, F47 ((n, ()), ()) = some (k, ()) ∧ F34 ((n, ()), ()) = some (k, ()) ∧ 0 ≤ k ∧ k ≤ 6 ∧ (n + 3 - k) % 7 = 0 := by
  have h1 : -7 < n.tmod 7 := Int.lt_tmod_of_pos n (by omega)
  have h2 : n.tmod 7 < 7 := Int.tmod_lt_of_pos n (by omega)
  have h3 : (n - n.tmod 7) % 7 = 0 := by
    have := Int.mul_tdiv_add_tmod n 7
    omega
  generalize hr : n.tmod 7 = r at *
  simp only [F47, F34, hr]
  have hr' : r = -6 ∨ r = -5 ∨ r = -4 ∨ r = -3 ∨ r = -2 ∨ r = -1 ∨ r = 0 ∨ r = 1 ∨ r = 2 ∨ r = 3 ∨ r = 4 ∨ r = 5 ∨ r = 6 := by omega
  clear hr
  rcases hr' with rfl | rfl | rfl | rfl | rfl | rfl | rfl | rfl | rfl | rfl | rfl | rfl | rfl
  · exact ⟨4, rfl, rfl, by omega, by omega, by omega⟩
  · exact ⟨5, rfl, rfl, by omega, by omega, by omega⟩
  · exact ⟨6, rfl, rfl, by omega, by omega, by omega⟩
  · exact ⟨0, rfl, rfl, by omega, by omega, by omega⟩
  · exact ⟨1, rfl, rfl, by omega, by omega, by omega⟩
  · exact ⟨2, rfl, rfl, by omega, by omega, by omega⟩
  · exact ⟨3, rfl, rfl, by omega, by omega, by omega⟩
  · exact ⟨4, rfl, rfl, by omega, by omega, by omega⟩
  · exact ⟨5, rfl, rfl, by omega, by omega, by omega⟩
  · exact ⟨6, rfl, rfl, by omega, by omega, by omega⟩
  · exact ⟨0, rfl, rfl, by omega, by omega, by omega⟩
  · exact ⟨1, rfl, rfl, by omega, by omega, by omega⟩
  · exact ⟨2, rfl, rfl, by omega, by omega, by omega⟩

theorem days (y m d : Int) : (Valid y m d ∧ F37 (((y, m, d, ()), ()), ()) = some ((num y m d, 0, ()), ()) ∧ F33 (((y, m, d, ()), ()), ()) = some ((num y m d, 0, ()), ())) ∨
    (¬ Valid y m d ∧ F37 (((y, m, d, ()), ()), ()) = some ((0, 2, ()), ()) ∧ F33 (((y, m, d, ()), ()), ()) = some ((0, 2, ()), ())) := by
  by_cases h : Valid y m d
  · exact .inl ⟨h, F37_eq h, F33_eq h⟩
  · exact .inr ⟨h, F37_bad h, F33_bad h⟩

theorem back {y m d : Int} (h : Valid y m d) : F56 ((num y m d, ()), ()) = some (((y, m, d, ()), 0, ()), ()) := by
  have h1 := F66_eq h rfl
  rcases civil (num y m d) with ⟨y', m', d', _, _, h2, h3⟩ | ⟨_, h3⟩
  · rw [h1] at h3
    rw [h2, ← h3]
  · rw [h1] at h3
    simp at h3

end Go.Dt

namespace Go.Dt
open Go Go.Ev

theorem F36_eq {y m d : Int} : ∃ b, F36 (((y, m, d, ()), ()), ()) = some (b, ()) ∧ (b = true ↔ Valid y m d) := by
  obtain ⟨b, _, h2, h3⟩ := @F35_eq y m d
  exact ⟨b, h2, h3⟩

theorem F37_any (y m d : Int) : ∃ a b, F37 (((y, m, d, ()), ()), ()) = some ((a, b, ()), ()) := by
  rcases days y m d with ⟨_, h1, _⟩ | ⟨_, h1, _⟩
  · exact ⟨_, _, h1⟩
  · exact ⟨_, _, h1⟩

theorem num_bd {y m d : Int} (h : Valid y m d) : -1000000000 ≤ num y m d ∧ num y m d ≤ 1000000000 := by
  obtain ⟨a1, a2, a3, a4, a5, a6⟩ := h
  have := @cum_bd y m a3 a4
  have := long_le y m
  have hah : 0 ≤ ahead y ∧ ahead y ≤ 3651694 := by unfold ahead; omega
  unfold num
  omega

end Go.Dt

namespace Go.Dt
open Go Go.Ev
set_option maxRecDepth 100000

theorem fits_true {n : Nat} (h : n ≤ 1000) : fits n = true := by
  unfold fits
  simp
  omega

end Go.Dt

namespace Go.Dt
open Go Go.Ev

theorem floor_eq {t q : Int} (hq : q = t.tdiv 86400) : (t < q * 86400 → q - 1 = t / 86400) ∧ (¬ t < q * 86400 → q = t / 86400) := by
  by_cases h : 0 ≤ t
  · rw [tdiv_nn h] at hq
    omega
  · have h1 : 0 ≤ -t := by omega
    have h2 : t.tdiv 86400 = -((-t) / 86400) := by
      rw [← tdiv_nn h1, Int.neg_tdiv]; omega
    rw [h2] at hq
    omega

theorem civil_err (n : Int) : ∃ y m d e, F66 ((n, ()), ()) = some (((y, m, d, ()), e, ()), ()) ∧ decide (e = 0) = (decide (-719162 ≤ n) && decide (n ≤ 2932896)) := by
  by_cases h : -719162 ≤ n ∧ n ≤ 2932896
  · obtain ⟨y, m, d, h1, h2, _⟩ := F56_eq h.1 h.2
    refine ⟨y, m, d, 0, F66_eq h1 h2, ?_⟩
    simp [h.1, h.2]
  · have : n < -719162 ∨ 2932896 < n := by omega
    refine ⟨0, 0, 0, 2, F66_out this, ?_⟩
    rcases this with h | h
    · have : decide (-719162 ≤ n) = false := by simpa using h
      rw [this]; rfl
    · have : decide (n ≤ 2932896) = false := by simpa using h
      rw [this, Bool.and_false]; rfl

theorem F51_in {s z : Int} (h1 : -1439 ≤ z) (h2 : z ≤ 1439) (h3 : -100000000000 ≤ s) (h4 : s ≤ 1000000000000) :
    F51 (((s, z, ()), ()), ()) = some (((s + 60 * z) / 86400, s + 60 * z - (s + 60 * z) / 86400 * 86400, decide (-719162 ≤ (s + 60 * z) / 86400) && decide ((s + 60 * z) / 86400 ≤ 2932896), ()), ()) := by
  have hc : (decide (z < -1439) || decide (1439 < z) || decide (s < -100000000000) || decide (1000000000000 < s)) = false := by
    simp only [Bool.or_eq_false_iff, decide_eq_false_iff_not]; omega
  simp only [F51, hc, cond_false]
  rw [w64_id (n := 60 * z) (by omega) (by omega), w64_id (n := s + 60 * z) (by omega) (by omega)]
  generalize ht : s + 60 * z = t
  have ht1 : -100000100000 ≤ t := by omega
  have ht2 : t ≤ 1000000100000 := by omega
  obtain ⟨f1, f2⟩ := floor_eq (t := t) rfl
  generalize hq : t.tdiv 86400 = q at f1 f2
  generalize hd : t / 86400 = day at f1 f2
  have hqb : -100000000 ≤ q ∧ q ≤ 100000000 := by
    by_cases h : t < q * 86400
    · have := f1 h; omega
    · have := f2 h; omega
  rw [w64_id (n := q) (by omega) (by omega), Option.bind_some]
  simp only []
  rw [w64_id (n := q * 86400) (by omega) (by omega), Option.bind_some]
  obtain ⟨y, m, d, e, e1, e2⟩ := civil_err day
  by_cases h : t < q * 86400
  · have hc2 : decide (t < q * 86400) = true := by simpa using h
    simp only [hc2, cond_true, Option.bind_some]
    rw [w64_id (n := q - 1) (by omega) (by omega), f1 h, e1, Option.bind_some]
    simp only [e2]
    rw [w64_id (n := 86400 * day) (by omega) (by omega), w64_id (by omega) (by omega), Int.mul_comm 86400 day]
  · have hc2 : decide (t < q * 86400) = false := by simpa using h
    simp only [hc2, cond_false, Option.bind_some]
    rw [f2 h, e1, Option.bind_some]
    simp only [e2]
    rw [w64_id (n := 86400 * day) (by omega) (by omega), w64_id (by omega) (by omega), Int.mul_comm 86400 day]

theorem there (s z : Int) : (∃ day rest y m d, F46 (((s, z, ()), ()), ()) = some ((day, rest, true, ()), ()) ∧ F51 (((s, z, ()), ()), ()) = some ((day, rest, true, ()), ()) ∧ Valid y m d ∧ F56 ((day, ()), ()) = some (((y, m, d, ()), 0, ()), ()) ∧ F66 ((day, ()), ()) = some (((y, m, d, ()), 0, ()), ())) ∨
    (∃ a b c d, F46 (((s, z, ()), ()), ()) = some ((a, b, false, ()), ()) ∧ F51 (((s, z, ()), ()), ()) = some ((c, d, false, ()), ())) := by
  have w1 : w64 (w64 (-719162 - 2) * 86400) = -62135769600 := by decide
  have w2 : w64 (w64 (2932896 + 2) * 86400) = 253402387200 := by decide
  by_cases hz : z < -1439 ∨ 1439 < z
  · right
    have hc : (decide (z < -1439) || decide (1439 < z)) = true := by simpa using hz
    exact ⟨0, 0, 0, 0, by simp only [F46, F63_eq, Option.bind_some, hc, Bool.true_or, cond_true], by simp only [F51, hc, Bool.true_or, cond_true]⟩
  · have hz1 : -1439 ≤ z := by omega
    have hz2 : z ≤ 1439 := by omega
    by_cases hs : s < -62135769600 ∨ 253402387200 < s
    · right
      have hc : (decide (z < -1439) || decide (1439 < z) || decide (s < -62135769600) || decide (253402387200 < s)) = true := by
        simp only [Bool.or_eq_true, decide_eq_true_eq]; omega
      have e30 : F46 (((s, z, ()), ()), ()) = some ((0, 0, false, ()), ()) := by
        simp only [F46, F63_eq, Option.bind_some, w1, w2, hc, cond_true]
      by_cases hs2 : s < -100000000000 ∨ 1000000000000 < s
      · have hc : (decide (z < -1439) || decide (1439 < z) || decide (s < -100000000000) || decide (1000000000000 < s)) = true := by
          simp only [Bool.or_eq_true, decide_eq_true_eq]; omega
        exact ⟨0, 0, 0, 0, e30, by simp only [F51, hc, cond_true]⟩
      · have e37 := F51_in hz1 hz2 (s := s) (by omega) (by omega)
        have hf : (decide (-719162 ≤ (s + 60 * z) / 86400) && decide ((s + 60 * z) / 86400 ≤ 2932896)) = false := by
          rw [Bool.and_eq_false_iff]
          rcases hs with hs | hs
          · left; simp; omega
          · right; simp; omega
        rw [hf] at e37
        exact ⟨0, 0, _, _, e30, e37⟩
    · have e37 := F51_in hz1 hz2 (s := s) (by omega) (by omega)
      have hc : (decide (z < -1439) || decide (1439 < z) || decide (s < -62135769600) || decide (253402387200 < s)) = false := by
        simp only [Bool.or_eq_false_iff, decide_eq_false_iff_not]; omega
      have e30 : F46 (((s, z, ()), ()), ()) = some (((s + 60 * z) / 86400, s + 60 * z - (s + 60 * z) / 86400 * 86400, decide (-719162 ≤ (s + 60 * z) / 86400) && decide ((s + 60 * z) / 86400 ≤ 2932896), ()), ()) := by
        simp only [F46, F63_eq, Option.bind_some, w1, w2, hc, cond_false]
        rw [w64_id (n := 60 * z) (by omega) (by omega), w64_id (n := s + 60 * z) (by omega) (by omega), F55_eq (by omega) (by omega) (by omega) (by omega), Option.bind_some]
        simp only []
        generalize ht : s + 60 * z = t
        have ht1 : -62135869600 ≤ t := by omega
        have ht2 : t ≤ 253402487200 := by omega
        rw [w64_id (n := t / 86400 * 86400) (by omega) (by omega), w64_id (n := t - t / 86400 * 86400) (by omega) (by omega)]
      by_cases hd : -719162 ≤ (s + 60 * z) / 86400 ∧ (s + 60 * z) / 86400 ≤ 2932896
      · left
        have hf : (decide (-719162 ≤ (s + 60 * z) / 86400) && decide ((s + 60 * z) / 86400 ≤ 2932896)) = true := by simpa using hd
        rw [hf] at e30 e37
        obtain ⟨y, m, d, h1, h2, h3⟩ := F56_eq hd.1 hd.2
        exact ⟨_, _, y, m, d, e30, e37, h1, h3, F66_eq h1 h2⟩
      · right
        have hf : (decide (-719162 ≤ (s + 60 * z) / 86400) && decide ((s + 60 * z) / 86400 ≤ 2932896)) = false := by
          rw [Bool.and_eq_false_iff]
          by_cases h : -719162 ≤ (s + 60 * z) / 86400
          · right; simp; omega
          · left; simp; omega
        rw [hf] at e30 e37
        exact ⟨_, _, _, _, e30, e37⟩

end Go.Dt
