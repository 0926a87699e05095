/- Days: plain laws. -/
import Derived.Test.YtbaocindligcmaaG1
namespace Go.Dt
open Go Go.Ev

theorem w64_id {n : Int} (h1 : -9223372036854775808 ≤ n) (h2 : n ≤ 9223372036854775807) : w64 n = n := by
  unfold w64 IntKind.wrap
  simp only [IntKind.bits, IntKind.signed]
  by_cases h : n % 2 ^ 64 ≥ 2 ^ 63
  · simp; omega
  · simp; omega

theorem tdiv_nn {a b : Int} (h : 0 ≤ a) : Int.tdiv a b = a / b := Int.tdiv_eq_ediv_of_nonneg h
theorem tmod_nn {a b : Int} (h : 0 ≤ a) : Int.tmod a b = a % b := Int.tmod_eq_emod_of_nonneg h

def leap (y : Int) : Bool := (decide (y % 4 = 0) && !decide (y % 100 = 0)) || decide (y % 400 = 0)
def long (y m : Int) : Int :=
  if m = 2 then (if leap y = true then 29 else 28) else if m = 4 ∨ m = 6 ∨ m = 9 ∨ m = 11 then 30 else 31
def lp (y : Int) : Int := if leap y = true then 1 else 0
def cum (y m : Int) : Int :=
  if m ≤ 1 then 0 else if m ≤ 2 then 31 else if m ≤ 3 then 59 + lp y else if m ≤ 4 then 90 + lp y else if m ≤ 5 then 120 + lp y else if m ≤ 6 then 151 + lp y
  else if m ≤ 7 then 181 + lp y else if m ≤ 8 then 212 + lp y else if m ≤ 9 then 243 + lp y else if m ≤ 10 then 273 + lp y else if m ≤ 11 then 304 + lp y else 334 + lp y
def ahead (y : Int) : Int := 365 * (y - 1) + (y - 1) / 4 - (y - 1) / 100 + (y - 1) / 400
def num (y m d : Int) : Int := ahead y - 719162 + cum y m + d - 1

structure Valid (y m d : Int) : Prop where
  y1 : 1 ≤ y
  y2 : y ≤ 9999
  m1 : 1 ≤ m
  m2 : m ≤ 12
  d1 : 1 ≤ d
  d2 : d ≤ long y m

theorem F53_eq {y m : Int} (hy : 1 ≤ y) : F53 ((y, m, ()), ()) = some (long y m, ()) := by
  simp only [F53, tmod_nn (show (0 : Int) ≤ y by omega)]
  unfold long leap
  by_cases h2 : m = 2
  · subst h2
    cases h4 : decide (y % 4 = 0) <;> cases h1 : decide (y % 100 = 0) <;> cases h0 : decide (y % 400 = 0) <;> simp
  · have : decide (m = 2) = false := by simpa using h2
    simp only [h2, if_false]
    by_cases h4 : m = 4 <;> by_cases h6 : m = 6 <;> by_cases h9 : m = 9 <;> by_cases h11 : m = 11 <;> simp [h4, h6, h9, h11]

theorem F29_eq {y : Int} (hy : 1 ≤ y) : F29 ((y, ()), ()) = some (leap y, ()) := by
  simp only [F29, tmod_nn (show (0 : Int) ≤ y by omega), leap]
  cases h4 : decide (y % 4 = 0) <;> cases h1 : decide (y % 100 = 0) <;> cases h0 : decide (y % 400 = 0) <;> rfl

theorem F16_eq {y m : Int} (hy : 1 ≤ y) (h1 : 1 ≤ m) (h2 : m ≤ 12) : F16 ((y, m, ()), ()) = some (long y m, ()) := by
  have hm : m = 1 ∨ m = 2 ∨ m = 3 ∨ m = 4 ∨ m = 5 ∨ m = 6 ∨ m = 7 ∨ m = 8 ∨ m = 9 ∨ m = 10 ∨ m = 11 ∨ m = 12 := by omega
  simp only [F16, F29_eq hy, Option.bind_some]
  unfold long
  rcases hm with rfl | rfl | rfl | rfl | rfl | rfl | rfl | rfl | rfl | rfl | rfl | rfl
  all_goals first
    | (cases leap y <;> rfl)
    | rfl

theorem valid_iff {y m d : Int} : (decide (1 ≤ y) && decide (y ≤ 9999) && decide (1 ≤ m) && decide (m ≤ 12) && decide (1 ≤ d)) = true ∧ d ≤ long y m ↔ Valid y m d := by
  simp only [Bool.and_eq_true, decide_eq_true_eq]
  exact ⟨fun ⟨⟨⟨⟨⟨a, b⟩, c⟩, d⟩, e⟩, f⟩ => ⟨a, b, c, d, e, f⟩, fun ⟨a, b, c, d, e, f⟩ => ⟨⟨⟨⟨⟨a, b⟩, c⟩, d⟩, e⟩, f⟩⟩

theorem F25_eq {y m d : Int} : ∃ b, F25 (((y, m, d, ()), ()), ()) = some (b, ()) ∧ F15 (((y, m, d, ()), ()), ()) = some (b, ()) ∧ (b = true ↔ Valid y m d) := by
  simp only [F25, F15]
  cases hc : (decide (1 ≤ y) && decide (y ≤ 9999) && decide (1 ≤ m) && decide (m ≤ 12) && decide (1 ≤ d)) with
  | false =>
    refine ⟨false, rfl, rfl, ?_⟩
    rw [← valid_iff, hc]
    simp
  | true =>
    have hc' := hc
    simp only [Bool.and_eq_true, decide_eq_true_eq] at hc'
    obtain ⟨⟨⟨⟨a, b⟩, c⟩, d'⟩, e⟩ := hc'
    refine ⟨decide (d ≤ long y m), by simp [F53_eq a], by simp [F16_eq a c d'], ?_⟩
    rw [← valid_iff, hc]
    simp

theorem long_le (y m : Int) : long y m ≤ 31 := by
  unfold long
  split
  · split <;> omega
  · split <;> omega

theorem F26_eq {a b : Int} (hb : 0 < b) (hb2 : b ≤ 1000000000) (ha : -1000000000000 ≤ a) (ha2 : a ≤ 1000000000000) : F26 ((a, b, ()), ()) = some (a / b, ()) := by
  have hne : decide (b ≠ 0) = true := by simp; omega
  simp only [F26, hne, cond_true]
  have hq : a.tdiv b * b + a.tmod b = a := by rw [Int.mul_comm]; exact Int.mul_tdiv_add_tmod a b
  by_cases h0 : 0 ≤ a
  · have hm : decide (a.tmod b < 0) = false := by
      rw [tmod_nn h0]
      have := Int.emod_nonneg a (show b ≠ 0 by omega)
      simpa using this
    have : 0 ≤ a / b := Int.ediv_nonneg h0 (by omega)
    have h3 : a / b ≤ a := Int.ediv_le_self b h0
    simp only [hm, cond_false, Option.bind_some, tdiv_nn h0]
    rw [w64_id (by omega) (by omega)]
  · have hneg : a < 0 := by omega
    have hb1 := Int.emod_nonneg a (show b ≠ 0 by omega)
    have hb3 := Int.emod_lt_of_pos a hb
    have hed := Int.mul_ediv_add_emod a b
    by_cases hz : a.tmod b < 0
    · have hlt : -b < a.tmod b := by
        have := Int.lt_tmod_of_pos a hb
        exact this
      have hdiv : a / b = a.tdiv b - 1 := by
        refine Int.le_antisymm ?_ ?_
        · refine Int.le_sub_one_of_lt ?_
          rw [Int.ediv_lt_iff_lt_mul hb]
          omega
        · rw [Int.le_ediv_iff_mul_le hb]
          rw [Int.sub_mul]
          omega
      have hr1 : -1000000000000 ≤ a.tdiv b := by
        have h1 : -a ≥ 0 := by omega
        have : a.tdiv b = -((-a).tdiv b) := by rw [Int.neg_tdiv]; omega
        rw [this, tdiv_nn h1]
        have := Int.ediv_le_self b h1
        omega
      have hr2 : a.tdiv b ≤ 0 := by
        have h1 : -a ≥ 0 := by omega
        have : a.tdiv b = -((-a).tdiv b) := by rw [Int.neg_tdiv]; omega
        rw [this, tdiv_nn h1]
        have := Int.ediv_nonneg h1 (show 0 ≤ b by omega)
        omega
      have hm : decide (a.tmod b < 0) = true := by simpa using hz
      simp only [hm, cond_true, Option.bind_some]
      rw [w64_id (n := a.tdiv b) (by omega) (by omega), w64_id (by omega) (by omega), hdiv]
    · have hm : decide (a.tmod b < 0) = false := by simpa using hz
      have hz0 : a.tmod b = 0 := by
        have h1 : -a ≥ 0 := by omega
        have h2 : a.tmod b = -((-a).tmod b) := by rw [Int.neg_tmod]; omega
        rw [tmod_nn h1] at h2
        have := Int.emod_nonneg (-a) (show b ≠ 0 by omega)
        omega
      have hdiv : a / b = a.tdiv b := by
        rw [hz0, Int.add_zero] at hq
        have h4 : a / b = (a.tdiv b * b) / b := by rw [hq]
        rw [h4, Int.mul_ediv_cancel _ (by omega)]
      have h1 : -a ≥ 0 := by omega
      have h5 : a.tdiv b = -((-a).tdiv b) := by rw [Int.neg_tdiv]; omega
      have h6 := Int.ediv_le_self b h1
      have h7 := Int.ediv_nonneg h1 (show 0 ≤ b by omega)
      rw [← tdiv_nn h1] at h6 h7
      simp only [hm, cond_false, Option.bind_some]
      rw [w64_id (by omega) (by omega), hdiv]

end Go.Dt
