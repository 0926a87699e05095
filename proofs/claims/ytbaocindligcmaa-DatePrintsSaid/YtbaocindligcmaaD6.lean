/- A number's day, counted. -/
import Derived.Test.YtbaocindligcmaaD5
namespace Go.Dt
open Go Go.Ev

theorem ahead_mono {a b : Int} (h : a ≤ b) : ahead a ≤ ahead b := by
  unfold ahead; omega

theorem cum_mono (y : Int) {a : Int} (h : 1 ≤ a) : ∀ k : Nat, a + k ≤ 12 → cum y a ≤ cum y (a + k)
  | 0, _ => by simp
  | k + 1, h2 => by
    have h3 := cum_mono y h k (by omega)
    have h4 := @cum_step y (a + k) (by omega) (by omega)
    have h5 := long_ge y (a + k)
    have h6 : a + ((k + 1 : Nat) : Int) = a + k + 1 := by omega
    rw [h6, h4]
    omega

theorem cum_mono' (y : Int) {a b : Int} (h : 1 ≤ a) (h2 : a ≤ b) (h3 : b ≤ 12) : cum y a ≤ cum y b := by
  have := cum_mono y h (b - a).toNat (by omega)
  rwa [show a + ((b - a).toNat : Int) = b by omega] at this

theorem L11a {k y y0 : Int} (h0 : 1 ≤ y0) (h1 : y0 ≤ y) (h2 : y ≤ 9999) (h3 : ahead y ≤ k) (h4 : k < ahead (y + 1)) : L11_0 (((), k, y0, ()), (0, 0, 0, ()), ()) = some (((), k, y, ()), (0, 0, 0, ()), ()) := by
  obtain ⟨r, e1, e2⟩ := loop_ind (f := B11_0) (fun p => ∃ y', 1 ≤ y' ∧ y' ≤ y ∧ p = (((), k, y', ()), (0, 0, 0, ()), ())) (fun p => (y - p.1.2.2.1).toNat) (fun r => r = (((), k, y, ()), (0, 0, 0, ()), ()))
    (fun p ⟨y', hy1, hy2, hp⟩ => by
      subst hp
      have e1 : w64 (y' + 1) = y' + 1 := w64_id (by omega) (by omega)
      by_cases hlt : y' < y
      · left
        have hle : ahead (y' + 1) ≤ k := Int.le_trans (ahead_mono (by omega)) h3
        refine ⟨_, by simp only [B11_0, e1, F27_eq (show 1 ≤ y' + 1 by omega) (show y' + 1 ≤ 20000 by omega), Option.bind_some, hle, decide_true, cond_true] <;> rfl, ⟨y' + 1, by omega, by omega, rfl⟩, ?_⟩
        simp only
        omega
      · right
        have : y' = y := by omega
        subst this
        have hnle : ¬ ahead (y' + 1) ≤ k := by omega
        exact ⟨_, by simp only [B11_0, e1, F27_eq (show 1 ≤ y' + 1 by omega) (show y' + 1 ≤ 20000 by omega), Option.bind_some, hnle, decide_false, cond_false] <;> rfl, rfl⟩)
    (p := (((), k, y0, ()), (0, 0, 0, ()), ())) ⟨y0, h0, h1, rfl⟩ (by unfold FUEL; simp only; omega)
  rw [e2] at e1
  exact e1

theorem L11b {y m d : Int} (h : Valid y m d) : L11_1 (((), cum y m + d - 1, y, 1, ()), (0, 0, 0, ()), ()) = some (((), d - 1, y, m, ()), (0, 0, 0, ()), ()) := by
  obtain ⟨a1, a2, a3, a4, a5, a6⟩ := h
  have hl31 := long_le y m
  obtain ⟨r, e1, e2⟩ := loop_ind (f := B11_1) (fun p => ∃ i, 1 ≤ i ∧ i ≤ m ∧ p = (((), cum y m - cum y i + d - 1, y, i, ()), (0, 0, 0, ()), ())) (fun p => (m - p.1.2.2.2.1).toNat) (fun r => r = (((), d - 1, y, m, ()), (0, 0, 0, ()), ()))
    (fun p ⟨i, hi1, hi2, hp⟩ => by
      subst hp
      have hb := @cum_bd y i hi1 (by omega)
      have hb2 := @cum_bd y m a3 a4
      have hl := long_le y i
      have hl2 := long_ge y i
      by_cases hlt : i < m
      · left
        have hs := @cum_step y i hi1 (by omega)
        have hm := cum_mono' y (a := i + 1) (b := m) (by omega) (by omega) a4
        have hle : long y i ≤ cum y m - cum y i + d - 1 := by omega
        refine ⟨_, by simp only [B11_1, F16_eq a1 hi1 (show i ≤ 12 by omega), Option.bind_some, hle, decide_true, cond_true] <;> rfl, ⟨i + 1, by omega, by omega, ?_⟩, ?_⟩
        · rw [w64_id (by omega) (by omega), w64_id (by omega) (by omega), hs]
          congr 3
          omega
        · rw [w64_id (n := i + 1) (by omega) (by omega)]
          simp only
          omega
      · right
        have : i = m := by omega
        subst this
        have hnle : ¬ long y i ≤ cum y i - cum y i + d - 1 := by omega
        refine ⟨_, by simp only [B11_1, F16_eq a1 hi1 (show i ≤ 12 by omega), Option.bind_some, hnle, decide_false, cond_false] <;> rfl, ?_⟩
        rw [Int.sub_self, Int.zero_add])
    (p := (((), cum y m + d - 1, y, 1, ()), (0, 0, 0, ()), ())) ⟨1, by omega, by omega, by simp [cum]⟩ (by unfold FUEL; simp only; omega)
  rw [e2] at e1
  exact e1

theorem ahead_1970 : ahead 1970 = 719162 := by decide
theorem ahead_10000 : ahead 10000 = 3652059 := by decide

theorem F11_out {n : Int} (h : n < -719162 ∨ 2932896 < n) : F11 ((n, ()), ()) = some (((0, 0, 0, ()), 2, ()), ()) := by
  simp only [F11, F27_eq (show (1 : Int) ≤ 1970 by omega) (show (1970 : Int) ≤ 20000 by omega), F27_eq (show (1 : Int) ≤ 10000 by omega) (show (10000 : Int) ≤ 20000 by omega), Option.bind_some, ahead_1970, ahead_10000]
  rw [w64_id (n := 0 - 719162) (by omega) (by omega), w64_id (n := 3652059 - 719162) (by omega) (by omega), w64_id (n := 3652059 - 719162 - 1) (by omega) (by omega)]
  have hc : (decide (n < 0 - 719162) || decide (3652059 - 719162 - 1 < n)) = true := by
    simp only [Bool.or_eq_true, decide_eq_true_eq]; omega
  rw [hc, cond_true]

theorem F11_eq {y m d n : Int} (h : Valid y m d) (hn : num y m d = n) : F11 ((n, ()), ()) = some (((y, m, d, ()), 0, ()), ()) := by
  have hb := L11b h
  obtain ⟨a1, a2, a3, a4, a5, a6⟩ := h
  have hcum := @cum_bd y m a3 a4
  have hl31 := long_le y m
  have hah : 0 ≤ ahead y ∧ ahead y ≤ 3651694 := by unfold ahead; omega
  unfold num at hn
  have hnext := ahead_next y
  have hyear : cum y m + d - 1 < 365 + lp y := by
    by_cases h12 : m = 12
    · subst h12
      have : cum y 12 = 334 + lp y := by simp [cum]
      omega
    · have h1 := @cum_step y m a3 (by omega)
      have h2 := cum_mono' y (a := m + 1) (b := 12) (by omega) (by omega) (by omega)
      have : cum y 12 = 334 + lp y := by simp [cum]
      omega
  have hlp := lp_spec y
  have hlp1 : lp y ≤ 1 := by rcases hlp with h | h <;> omega
  have h366 : ahead (y + 1) ≤ 366 * y := by unfold ahead; omega
  clear hlp
  have htop : ahead (y + 1) ≤ 3652059 := by
    have := ahead_mono (a := y + 1) (b := 10000) (by omega)
    rw [ahead_10000] at this
    exact this
  simp only [F11, F27_eq (show (1 : Int) ≤ 1970 by omega) (show (1970 : Int) ≤ 20000 by omega), F27_eq (show (1 : Int) ≤ 10000 by omega) (show (10000 : Int) ≤ 20000 by omega), Option.bind_some, ahead_1970, ahead_10000]
  rw [w64_id (n := 0 - 719162) (by omega) (by omega), w64_id (n := 3652059 - 719162) (by omega) (by omega), w64_id (n := 3652059 - 719162 - 1) (by omega) (by omega)]
  have hc : (decide (n < 0 - 719162) || decide (3652059 - 719162 - 1 < n)) = false := by
    rw [Bool.or_eq_false_iff]; constructor <;> simp <;> omega
  rw [hc, cond_false, w64_id (n := n - (0 - 719162)) (by omega) (by omega)]
  generalize hk : n - (0 - 719162) = k
  rw [tdiv_nn (by omega), w64_id (n := k / 366) (by omega) (by omega), w64_id (n := k / 366 + 1) (by omega) (by omega), L11a (y := y) (by omega) (by omega) a2 (by omega) (by omega)]
  simp only [Option.bind_some, F27_eq a1 (show y ≤ 20000 by omega)]
  rw [w64_id (n := k - ahead y) (by omega) (by omega), show k - ahead y = cum y m + d - 1 by omega, hb]
  simp only [Option.bind_some]
  rw [w64_id (by omega) (by omega), show d - 1 + 1 = d by omega]

/-- Both ways to a number's day. -/
theorem civil (n : Int) : (∃ y m d, Valid y m d ∧ num y m d = n ∧ F10 ((n, ()), ()) = some (((y, m, d, ()), 0, ()), ()) ∧ F11 ((n, ()), ()) = some (((y, m, d, ()), 0, ()), ())) ∨
    (F10 ((n, ()), ()) = some (((0, 0, 0, ()), 2, ()), ()) ∧ F11 ((n, ()), ()) = some (((0, 0, 0, ()), 2, ()), ())) := by
  by_cases h : -719162 ≤ n ∧ n ≤ 2932896
  · obtain ⟨y, m, d, h1, h2, h3⟩ := F10_eq h.1 h.2
    exact .inl ⟨y, m, d, h1, h2, h3, F11_eq h1 h2⟩
  · have : n < -719162 ∨ 2932896 < n := by omega
    exact .inr ⟨F10_out this, F11_out this⟩

end Go.Dt
