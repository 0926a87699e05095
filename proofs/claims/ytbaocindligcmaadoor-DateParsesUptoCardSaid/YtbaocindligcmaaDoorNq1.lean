/- Days: plain laws. -/
import Derived.Test.YtbaocindligcmaaDoorNG1
import Derived.Test.YtbaocindligcmaaDoorEvV
namespace Go.Dt
open Go Go.Ev

theorem w64_id {n : Int} (h1 : -9223372036854775808 ≤ n) (h2 : n ≤ 9223372036854775807) : w64 n = n := by
  unfold w64 IntKind.wrap
  simp only [IntKind.bits, IntKind.signed]
  by_cases h : n % 2 ^ 64 ≥ 2 ^ 63
  · simp; omega
  · simp; omega

theorem tdiv_nn {a b : Int} (h : 0 ≤ a) : Int.tdiv a b = a / b := Int.tdiv_eq_ediv_of_nonneg h
theorem tmod_nn {a b : Int} (h : 0 ≤ a) : Int.tmod a b = a % b := Int.tmod_eq_emod_of_nonneg h

def leap (y : Int) : Bool := (decide (y % 4 = 0) && !decide (y % 100 = 0)) || decide (y % 400 = 0)
def long (y m : Int) : Int :=
  if m = 2 then (if leap y = true then 29 else 28) else if m = 4 ∨ m = 6 ∨ m = 9 ∨ m = 11 then 30 else 31
def lp (y : Int) : Int := if leap y = true then 1 else 0
def cum (y m : Int) : Int :=
  if m ≤ 1 then 0 else if m ≤ 2 then 31 else if m ≤ 3 then 59 + lp y else if m ≤ 4 then 90 + lp y else if m ≤ 5 then 120 + lp y else if m ≤ 6 then 151 + lp y
  else if m ≤ 7 then 181 + lp y else if m ≤ 8 then 212 + lp y else if m ≤ 9 then 243 + lp y else if m ≤ 10 then 273 + lp y else if m ≤ 11 then 304 + lp y else 334 + lp y
def ahead (y : Int) : Int := 365 * (y - 1) + (y - 1) / 4 - (y - 1) / 100 + (y - 1) / 400
def num (y m d : Int) : Int := ahead y - 719162 + cum y m + d - 1

structure Valid (y m d : Int) : Prop where
  y1 : 1 ≤ y
  y2 : y ≤ 9999
  m1 : 1 ≤ m
  m2 : m ≤ 12
  d1 : 1 ≤ d
  d2 : d ≤ long y m

theorem F54_eq {y m : Int} (hy : 1 ≤ y) : F54 ((y, m, ()), ()) = some (long y m, ()) := by
  simp only [F54, tmod_nn (show (0 : Int) ≤ y by omega)]
  unfold long leap
  by_cases h2 : m = 2
  · subst h2
    cases h4 : decide (y % 4 = 0) <;> cases h1 : decide (y % 100 = 0) <;> cases h0 : decide (y % 400 = 0) <;> simp
  · have : decide (m = 2) = false := by simpa using h2
    simp only [h2, if_false]
    by_cases h4 : m = 4 <;> by_cases h6 : m = 6 <;> by_cases h9 : m = 9 <;> by_cases h11 : m = 11 <;> simp [h4, h6, h9, h11]

theorem F67_eq {y : Int} (hy : 1 ≤ y) : F67 ((y, ()), ()) = some (leap y, ()) := by
  simp only [F67, tmod_nn (show (0 : Int) ≤ y by omega), leap]
  cases h4 : decide (y % 4 = 0) <;> cases h1 : decide (y % 100 = 0) <;> cases h0 : decide (y % 400 = 0) <;> rfl

theorem F53_eq {y m : Int} (hy : 1 ≤ y) (h1 : 1 ≤ m) (h2 : m ≤ 12) : F53 ((y, m, ()), ()) = some (long y m, ()) := by
  have hm : m = 1 ∨ m = 2 ∨ m = 3 ∨ m = 4 ∨ m = 5 ∨ m = 6 ∨ m = 7 ∨ m = 8 ∨ m = 9 ∨ m = 10 ∨ m = 11 ∨ m = 12 := by omega
  simp only [F53, F67_eq hy, Option.bind_some]
  unfold long
  rcases hm with rfl | rfl | rfl | rfl | rfl | rfl | rfl | rfl | rfl | rfl | rfl | rfl
  all_goals first
    | (cases leap y <;> rfl)
    | rfl

theorem valid_iff {y m d : Int} : (decide (1 ≤ y) && decide (y ≤ 9999) && decide (1 ≤ m) && decide (m ≤ 12) && decide (1 ≤ d)) = true ∧ d ≤ long y m ↔ Valid y m d := by
  simp only [Bool.and_eq_true, decide_eq_true_eq]
  exact ⟨fun ⟨⟨⟨⟨⟨a, b⟩, c⟩, d⟩, e⟩, f⟩ => ⟨a, b, c, d, e, f⟩, fun ⟨a, b, c, d, e, f⟩ => ⟨⟨⟨⟨⟨a, b⟩, c⟩, d⟩, e⟩, f⟩⟩

theorem F35_eq {y m d : Int} : ∃ b, F35 (((y, m, d, ()), ()), ()) = some (b, ()) ∧ F36 (((y, m, d, ()), ()), ()) = some (b, ()) ∧ (b = true ↔ Valid y m d) := by
  simp only [F35, F36]
  cases hc : (decide (1 ≤ y) && decide (y ≤ 9999) && decide (1 ≤ m) && decide (m ≤ 12) && decide (1 ≤ d)) with
  | false =>
    refine ⟨false, rfl, rfl, ?_⟩
    rw [← valid_iff, hc]
    simp
  | true =>
    have hc' := hc
    simp only [Bool.and_eq_true, decide_eq_true_eq] at hc'
    obtain ⟨⟨⟨⟨a, b⟩, c⟩, d'⟩, e⟩ := hc'
    refine ⟨decide (d ≤ long y m), by simp [F54_eq a], by simp [F53_eq a c d'], ?_⟩
    rw [← valid_iff, hc]
    simp

theorem long_le (y m : Int) : long y m ≤ 31 := by
  unfold long
  split
  · split <;> omega
  · split <;> omega

theorem F55_eq {a b : Int} (hb : 0 < b) (hb2 : b ≤ 1000000000) (ha : -1000000000000 ≤ a) (ha2 : a ≤ 1000000000000) : F55 ((a, b, ()), ()) = some (a / b, ()) := by
  have hne : decide (b ≠ 0) = true := by simp; omega
  simp only [F55, hne, cond_true]
  have hq : a.tdiv b * b + a.tmod b = a := by rw [Int.mul_comm]; exact Int.mul_tdiv_add_tmod a b
  by_cases h0 : 0 ≤ a
  · have hm : decide (a.tmod b < 0) = false := by
      rw [tmod_nn h0]
      have := Int.emod_nonneg a (show b ≠ 0 by omega)
      simpa using this
    have : 0 ≤ a / b := Int.ediv_nonneg h0 (by omega)
    have h3 : a / b ≤ a := Int.ediv_le_self b h0
    simp only [hm, cond_false, Option.bind_some, tdiv_nn h0]
    rw [w64_id (by omega) (by omega)]
  · have hneg : a < 0 := by omega
    have hb1 := Int.emod_nonneg a (show b ≠ 0 by omega)
    have hb3 := Int.emod_lt_of_pos a hb
    have hed := Int.mul_ediv_add_emod a b
    by_cases hz : a.tmod b < 0
    · have hlt : -b < a.tmod b := by
        have := Int.lt_tmod_of_pos a hb
        exact this
      have hdiv : a / b = a.tdiv b - 1 := by
        refine Int.le_antisymm ?_ ?_
        · refine Int.le_sub_one_of_lt ?_
          rw [Int.ediv_lt_iff_lt_mul hb]
          omega
        · rw [Int.le_ediv_iff_mul_le hb]
          rw [Int.sub_mul]
          omega
      have hr1 : -1000000000000 ≤ a.tdiv b := by
        have h1 : -a ≥ 0 := by omega
        have : a.tdiv b = -((-a).tdiv b) := by rw [Int.neg_tdiv]; omega
        rw [this, tdiv_nn h1]
        have := Int.ediv_le_self b h1
        omega
      have hr2 : a.tdiv b ≤ 0 := by
        have h1 : -a ≥ 0 := by omega
        have : a.tdiv b = -((-a).tdiv b) := by rw [Int.neg_tdiv]; omega
        rw [this, tdiv_nn h1]
        have := Int.ediv_nonneg h1 (show 0 ≤ b by omega)
        omega
      have hm : decide (a.tmod b < 0) = true := by simpa using hz
      simp only [hm, cond_true, Option.bind_some]
      rw [w64_id (n := a.tdiv b) (by omega) (by omega), w64_id (by omega) (by omega), hdiv]
    · have hm : decide (a.tmod b < 0) = false := by simpa using hz
      have hz0 : a.tmod b = 0 := by
        have h1 : -a ≥ 0 := by omega
        have h2 : a.tmod b = -((-a).tmod b) := by rw [Int.neg_tmod]; omega
        rw [tmod_nn h1] at h2
        have := Int.emod_nonneg (-a) (show b ≠ 0 by omega)
        omega
      have hdiv : a / b = a.tdiv b := by
        rw [hz0, Int.add_zero] at hq
        have h4 : a / b = (a.tdiv b * b) / b := by rw [hq]
        rw [h4, Int.mul_ediv_cancel _ (by omega)]
      have h1 : -a ≥ 0 := by omega
      have h5 : a.tdiv b = -((-a).tdiv b) := by rw [Int.neg_tdiv]; omega
      have h6 := Int.ediv_le_self b h1
      have h7 := Int.ediv_nonneg h1 (show 0 ≤ b by omega)
      rw [← tdiv_nn h1] at h6 h7
      simp only [hm, cond_false, Option.bind_some]
      rw [w64_id (by omega) (by omega), hdiv]

end Go.Dt

namespace Go.Dt
open Go Go.Ev

theorem lp_spec (y : Int) : (lp y = 1 ∧ ((y % 4 = 0 ∧ ¬ y % 100 = 0) ∨ y % 400 = 0)) ∨ (lp y = 0 ∧ ¬ ((y % 4 = 0 ∧ ¬ y % 100 = 0) ∨ y % 400 = 0)) := by
  unfold lp leap
  by_cases h : ((decide (y % 4 = 0) && !decide (y % 100 = 0)) || decide (y % 400 = 0)) = true
  · left
    rw [if_pos h]
    simpa using h
  · right
    rw [if_neg h]
    simpa using h

theorem F37_bad {y m d : Int} (h : ¬ Valid y m d) : F37 (((y, m, d, ()), ()), ()) = some ((0, 2, ()), ()) := by
  obtain ⟨b, h1, _, h3⟩ := @F35_eq y m d
  have hb : b = false := by cases b <;> simp_all
  simp only [F37, h1, hb, Option.bind_some, Bool.not_false, cond_true]

theorem F33_bad {y m d : Int} (h : ¬ Valid y m d) : F33 (((y, m, d, ()), ()), ()) = some ((0, 2, ()), ()) := by
  obtain ⟨b, _, h1, h3⟩ := @F35_eq y m d
  have hb : b = false := by cases b <;> simp_all
  simp only [F33, h1, hb, Option.bind_some, Bool.not_false, cond_true]

theorem cum_hi {y m : Int} (h : 3 ≤ m) (h2 : m ≤ 12) : cum y m = 59 + lp y + (153 * (m - 3) + 2) / 5 := by
  have hm : m = 3 ∨ m = 4 ∨ m = 5 ∨ m = 6 ∨ m = 7 ∨ m = 8 ∨ m = 9 ∨ m = 10 ∨ m = 11 ∨ m = 12 := by omega
  rcases hm with rfl | rfl | rfl | rfl | rfl | rfl | rfl | rfl | rfl | rfl <;> simp [cum] <;> omega
theorem cum_lo {y m : Int} (h : 1 ≤ m) (h2 : m < 3) : cum y m = (153 * (m + 9) + 2) / 5 - 306 := by
  have hm : m = 1 ∨ m = 2 := by omega
  rcases hm with rfl | rfl <;> simp [cum]

theorem F37_eq {y m d : Int} (h : Valid y m d) : F37 (((y, m, d, ()), ()), ()) = some ((num y m d, 0, ()), ()) := by
  obtain ⟨b, h1, _, h3⟩ := @F35_eq y m d
  have hb : b = true := h3.2 h
  have hd := long_le y m
  obtain ⟨a1, a2, a3, a4, a5, a6⟩ := h
  have hl := lp_spec y
  simp only [F37, h1, hb, Option.bind_some, Bool.not_true, cond_false]
  rw [w64_id (n := m - 3) (by omega) (by omega)]
  by_cases h3 : m - 3 < 0
  · have hc : decide (m - 3 < 0) = true := by simpa using h3
    simp only [hc, cond_true, Option.bind_some]
    rw [w64_id (n := y - 1) (by omega) (by omega), F55_eq (by omega) (by omega) (by omega) (by omega)]
    simp only [Option.bind_some]
    congr 3
    simp (disch := omega) only [w64_id, tdiv_nn]
    unfold num ahead
    rw [cum_lo a3 (by omega)]
    omega
  · have hc : decide (m - 3 < 0) = false := by simpa using h3
    simp only [hc, cond_false, Option.bind_some]
    rw [F55_eq (by omega) (by omega) (by omega) (by omega)]
    simp only [Option.bind_some]
    congr 3
    simp (disch := omega) only [w64_id, tdiv_nn]
    unfold num ahead
    rw [cum_hi (by omega) a4]
    omega

end Go.Dt

namespace Go.Dt
open Go Go.Ev

theorem F52_eq {y : Int} (h : 1 ≤ y) (h2 : y ≤ 20000) : F52 ((y, ()), ()) = some (ahead y, ()) := by
  simp only [F52]
  congr 2
  simp (disch := omega) only [w64_id, tdiv_nn]
  unfold ahead
  omega

theorem long_eq (y m : Int) : (m = 2 → long y m = 28 + lp y) ∧ (m = 4 ∨ m = 6 ∨ m = 9 ∨ m = 11 → long y m = 30) ∧ (¬ (m = 2 ∨ m = 4 ∨ m = 6 ∨ m = 9 ∨ m = 11) → long y m = 31) := by
  unfold long lp
  refine ⟨fun h => ?_, fun h => ?_, fun h => ?_⟩
  · subst h; cases leap y <;> rfl
  · rw [if_neg (by omega), if_pos h]
  · rw [if_neg (by omega), if_neg (by omega)]

theorem cum_step {y m : Int} (h : 1 ≤ m) (h2 : m ≤ 11) : cum y (m + 1) = cum y m + long y m := by
  have hm : m = 1 ∨ m = 2 ∨ m = 3 ∨ m = 4 ∨ m = 5 ∨ m = 6 ∨ m = 7 ∨ m = 8 ∨ m = 9 ∨ m = 10 ∨ m = 11 := by omega
  rcases hm with rfl | rfl | rfl | rfl | rfl | rfl | rfl | rfl | rfl | rfl | rfl <;> simp [cum, long, lp] <;> (cases leap y <;> simp)

theorem cum_bd {y m : Int} (h : 1 ≤ m) (h2 : m ≤ 12) : 0 ≤ cum y m ∧ cum y m ≤ 335 := by
  have := lp_spec y
  have hm : m = 1 ∨ m = 2 ∨ m = 3 ∨ m = 4 ∨ m = 5 ∨ m = 6 ∨ m = 7 ∨ m = 8 ∨ m = 9 ∨ m = 10 ∨ m = 11 ∨ m = 12 := by omega
  rcases hm with rfl | rfl | rfl | rfl | rfl | rfl | rfl | rfl | rfl | rfl | rfl | rfl <;> simp [cum] <;> omega

theorem long_ge (y m : Int) : 28 ≤ long y m := by
  unfold long
  split
  · split <;> omega
  · split <;> omega

theorem L33_eq {y m d : Int} (h : Valid y m d) : L33_0 (((), ahead y - 719162, 1, ()), (y, m, d, ()), ()) = some (((), ahead y - 719162 + cum y m, ()), (y, m, d, ()), ()) := by
  obtain ⟨a1, a2, a3, a4, a5, a6⟩ := h
  have hah : 0 ≤ ahead y ∧ ahead y ≤ 10000000 := by unfold ahead; omega
  obtain ⟨r, h1, h2⟩ := loop_ind (f := B33_0) (fun p => ∃ i, 1 ≤ i ∧ i ≤ m ∧ p = (((), ahead y - 719162 + cum y i, i, ()), (y, m, d, ()), ())) (fun p => (m - p.1.2.2.1).toNat) (fun r => r = (((), ahead y - 719162 + cum y m, ()), (y, m, d, ()), ()))
    (fun p ⟨i, hi, him, hp⟩ => by
      subst hp
      have hb := @cum_bd y i hi (by omega)
      have hl := long_le y i
      have hl2 := long_ge y i
      by_cases hlt : i < m
      · left
        refine ⟨_, by simp only [B33_0, hlt, decide_true, cond_true, F53_eq a1 hi (show i ≤ 12 by omega), Option.bind_some]; exact rfl, ⟨i + 1, by omega, by omega, ?_⟩, ?_⟩
        · simp (disch := omega) only [w64_id, cum_step hi (show i ≤ 11 by omega)]
          rw [Int.add_assoc]
        · simp (disch := omega) only [w64_id]
          omega
      · right
        have : i = m := by omega
        subst this
        exact ⟨_, by simp only [B33_0, hlt, decide_false, cond_false], rfl⟩) (p := (((), ahead y - 719162, 1, ()), (y, m, d, ()), ())) ⟨1, by omega, by omega, by simp [cum]⟩ (by unfold FUEL; simp only; omega)
  rw [h2] at h1
  exact h1

theorem F33_eq {y m d : Int} (h : Valid y m d) : F33 (((y, m, d, ()), ()), ()) = some ((num y m d, 0, ()), ()) := by
  obtain ⟨b, _, h1, h3⟩ := @F35_eq y m d
  have hb : b = true := h3.2 h
  have hd := long_le y m
  have hL := L33_eq h
  obtain ⟨a1, a2, a3, a4, a5, a6⟩ := h
  have hah : 0 ≤ ahead y ∧ ahead y ≤ 10000000 := by unfold ahead; omega
  have hcum := @cum_bd y m a3 a4
  have h1970 : ahead 1970 = 719162 := by decide
  simp only [F33, h1, hb, Option.bind_some, Bool.not_true, cond_false, F52_eq a1 (show y ≤ 20000 by omega), F52_eq (show (1:Int) ≤ 1970 by omega) (show (1970:Int) ≤ 20000 by omega), h1970]
  rw [w64_id (n := ahead y - 719162) (by omega) (by omega), hL]
  simp only [Option.bind_some]
  congr 3
  simp (disch := omega) only [w64_id]
  unfold num
  omega

end Go.Dt
