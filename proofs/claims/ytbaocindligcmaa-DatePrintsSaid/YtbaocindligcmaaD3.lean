/- A day's number, counted. -/
import Derived.Test.YtbaocindligcmaaD2
import Derived.Test.YtbaocindligcmaaEvV
namespace Go.Dt
open Go Go.Ev

theorem F27_eq {y : Int} (h : 1 ≤ y) (h2 : y ≤ 20000) : F27 ((y, ()), ()) = some (ahead y, ()) := by
  simp only [F27]
  congr 2
  simp (disch := omega) only [w64_id, tdiv_nn]
  unfold ahead
  omega

theorem long_eq (y m : Int) : (m = 2 → long y m = 28 + lp y) ∧ (m = 4 ∨ m = 6 ∨ m = 9 ∨ m = 11 → long y m = 30) ∧ (¬ (m = 2 ∨ m = 4 ∨ m = 6 ∨ m = 9 ∨ m = 11) → long y m = 31) := by
  unfold long lp
  refine ⟨fun h => ?_, fun h => ?_, fun h => ?_⟩
  · subst h; cases leap y <;> rfl
  · rw [if_neg (by omega), if_pos h]
  · rw [if_neg (by omega), if_neg (by omega)]

theorem cum_step {y m : Int} (h : 1 ≤ m) (h2 : m ≤ 11) : cum y (m + 1) = cum y m + long y m := by
  have hm : m = 1 ∨ m = 2 ∨ m = 3 ∨ m = 4 ∨ m = 5 ∨ m = 6 ∨ m = 7 ∨ m = 8 ∨ m = 9 ∨ m = 10 ∨ m = 11 := by omega
  rcases hm with rfl | rfl | rfl | rfl | rfl | rfl | rfl | rfl | rfl | rfl | rfl <;> simp [cum, long, lp] <;> (cases leap y <;> simp)

theorem cum_bd {y m : Int} (h : 1 ≤ m) (h2 : m ≤ 12) : 0 ≤ cum y m ∧ cum y m ≤ 335 := by
  have := lp_spec y
  have hm : m = 1 ∨ m = 2 ∨ m = 3 ∨ m = 4 ∨ m = 5 ∨ m = 6 ∨ m = 7 ∨ m = 8 ∨ m = 9 ∨ m = 10 ∨ m = 11 ∨ m = 12 := by omega
  rcases hm with rfl | rfl | rfl | rfl | rfl | rfl | rfl | rfl | rfl | rfl | rfl | rfl <;> simp [cum] <;> omega

theorem long_ge (y m : Int) : 28 ≤ long y m := by
  unfold long
  split
  · split <;> omega
  · split <;> omega

theorem L9_eq {y m d : Int} (h : Valid y m d) : L9_0 (((), ahead y - 719162, 1, ()), (y, m, d, ()), ()) = some (((), ahead y - 719162 + cum y m, ()), (y, m, d, ()), ()) := by
  obtain ⟨a1, a2, a3, a4, a5, a6⟩ := h
  have hah : 0 ≤ ahead y ∧ ahead y ≤ 10000000 := by unfold ahead; omega
  obtain ⟨r, h1, h2⟩ := loop_ind (f := B9_0) (fun p => ∃ i, 1 ≤ i ∧ i ≤ m ∧ p = (((), ahead y - 719162 + cum y i, i, ()), (y, m, d, ()), ())) (fun p => (m - p.1.2.2.1).toNat) (fun r => r = (((), ahead y - 719162 + cum y m, ()), (y, m, d, ()), ()))
    (fun p ⟨i, hi, him, hp⟩ => by
      subst hp
      have hb := @cum_bd y i hi (by omega)
      have hl := long_le y i
      have hl2 := long_ge y i
      by_cases hlt : i < m
      · left
        refine ⟨_, by simp only [B9_0, hlt, decide_true, cond_true, F16_eq a1 hi (show i ≤ 12 by omega), Option.bind_some]; exact rfl, ⟨i + 1, by omega, by omega, ?_⟩, ?_⟩
        · simp (disch := omega) only [w64_id, cum_step hi (show i ≤ 11 by omega)]
          rw [Int.add_assoc]
        · simp (disch := omega) only [w64_id]
          omega
      · right
        have : i = m := by omega
        subst this
        exact ⟨_, by simp only [B9_0, hlt, decide_false, cond_false], rfl⟩) (p := (((), ahead y - 719162, 1, ()), (y, m, d, ()), ())) ⟨1, by omega, by omega, by simp [cum]⟩ (by unfold FUEL; simp only; omega)
  rw [h2] at h1
  exact h1

theorem F9_eq {y m d : Int} (h : Valid y m d) : F9 (((y, m, d, ()), ()), ()) = some ((num y m d, 0, ()), ()) := by
  obtain ⟨b, _, h1, h3⟩ := @F25_eq y m d
  have hb : b = true := h3.2 h
  have hd := long_le y m
  have hL := L9_eq h
  obtain ⟨a1, a2, a3, a4, a5, a6⟩ := h
  have hah : 0 ≤ ahead y ∧ ahead y ≤ 10000000 := by unfold ahead; omega
  have hcum := @cum_bd y m a3 a4
  have h1970 : ahead 1970 = 719162 := by decide
  simp only [F9, h1, hb, Option.bind_some, Bool.not_true, cond_false, F27_eq a1 (show y ≤ 20000 by omega), F27_eq (show (1:Int) ≤ 1970 by omega) (show (1970:Int) ≤ 20000 by omega), h1970]
  rw [w64_id (n := ahead y - 719162) (by omega) (by omega), hL]
  simp only [Option.bind_some]
  congr 3
  simp (disch := omega) only [w64_id]
  unfold num
  omega

end Go.Dt
