/- The days of an era, each looked at. -/
import Derived.Test.YtbaocindligcmaaDoorNq1
import Derived.Test.YtbaocindligcmaaDoorNG1
namespace Go.Dt

def chk (doe : Nat) : Bool :=
  let yoe := (doe - doe / 1460 + doe / 36524 - doe / 146096) / 365
  let s := 365 * yoe + yoe / 4 - yoe / 100
  Nat.ble s doe && Nat.ble yoe 399 && (Nat.ble (doe - s) 364 || (Nat.beq (doe - s) 365 && ((Nat.beq ((yoe + 1) % 4) 0 && !Nat.beq ((yoe + 1) % 100) 0) || Nat.beq ((yoe + 1) % 400) 0)))

def all2 (f : Nat → Bool) : Nat → Nat → Bool
  | 0, lo => f lo
  | k + 1, lo => all2 f k lo && all2 f k (lo + 2 ^ k)

theorem all2_ok {f : Nat → Bool} : ∀ (k lo : Nat), all2 f k lo = true → ∀ i, lo ≤ i → i < lo + 2 ^ k → f i = true
  | 0, lo, h, i, h1, h2 => by
    have : i = lo := by omega
    subst this; exact h
  | k + 1, lo, h, i, h1, h2 => by
    simp only [all2, Bool.and_eq_true] at h
    have hp : 2 ^ (k + 1) = 2 ^ k + 2 ^ k := by rw [Nat.pow_succ]; omega
    rcases Nat.lt_or_ge i (lo + 2 ^ k) with hi | hi
    · exact all2_ok k lo h.1 i h1 hi
    · exact all2_ok k (lo + 2 ^ k) h.2 i hi (by omega)

def chk' (doe : Nat) : Bool := Nat.ble 146097 doe || chk doe

set_option maxRecDepth 100000 in
theorem era_all : all2 chk' 18 0 = true := by kernel_rfl

theorem era_nat {doe : Nat} (h : doe ≤ 146096) : chk doe = true := by
  have := all2_ok 18 0 era_all doe (Nat.zero_le _) (by omega)
  unfold chk' at this
  have hb : Nat.ble 146097 doe = false := by
    cases hh : Nat.ble 146097 doe with
    | false => rfl
    | true => have := Nat.le_of_ble_eq_true hh; omega
  simpa [hb] using this

/-- The year of an era that a day of it lies in. -/
theorem era {doe : Int} (h : 0 ≤ doe) (h2 : doe ≤ 146096) {yoe : Int} (hy : yoe = (doe - doe / 1460 + doe / 36524 - doe / 146096) / 365) :
    0 ≤ yoe ∧ yoe ≤ 399 ∧ 0 ≤ doe - (365 * yoe + yoe / 4 - yoe / 100) ∧
    (doe - (365 * yoe + yoe / 4 - yoe / 100) ≤ 364 ∨ (doe - (365 * yoe + yoe / 4 - yoe / 100) = 365 ∧ (((yoe + 1) % 4 = 0 ∧ ¬ (yoe + 1) % 100 = 0) ∨ (yoe + 1) % 400 = 0))) := by
  obtain ⟨n, rfl⟩ : ∃ n : Nat, doe = (n : Int) := ⟨doe.toNat, by omega⟩
  have hc := era_nat (doe := n) (by omega)
  unfold chk at hc
  simp only [Bool.and_eq_true, Bool.or_eq_true, Bool.not_eq_true'] at hc
  obtain ⟨⟨a1, a2⟩, a3⟩ := hc
  have a1 := Nat.le_of_ble_eq_true a1
  have a2 := Nat.le_of_ble_eq_true a2
  generalize hyn : (n - n / 1460 + n / 36524 - n / 146096) / 365 = yn at a1 a2 a3
  have hyy : yoe = (yn : Int) := by omega
  subst hyy
  refine ⟨by omega, by omega, by omega, ?_⟩
  rcases a3 with a3 | ⟨a3, a4⟩
  · left; have a3 := Nat.le_of_ble_eq_true a3; omega
  · right
    have a3 := Nat.eq_of_beq_eq_true a3
    refine ⟨by omega, ?_⟩
    rcases a4 with ⟨a4, a5⟩ | a4
    · left
      have a4 := Nat.eq_of_beq_eq_true a4
      have a5 : ¬ (yn + 1) % 100 = 0 := fun e => by rw [e] at a5; cases a5
      omega
    · right
      have a4 := Nat.eq_of_beq_eq_true a4
      omega

end Go.Dt

namespace Go.Dt
open Go Go.Ev

theorem F63_eq : F63 ((), ()) = some ((-719162, 2932896, ()), ()) := by kernel_rfl

theorem F56_out {n : Int} (h : n < -719162 ∨ 2932896 < n) : F56 ((n, ()), ()) = some (((0, 0, 0, ()), 2, ()), ()) := by
  have hc : (decide (n < -719162) || decide (2932896 < n)) = true := by simpa using h
  simp only [F56, F63_eq, Option.bind_some, hc, cond_true]

theorem ahead_next (y : Int) : ahead (y + 1) = ahead y + 365 + lp y := by
  have := lp_spec y
  unfold ahead
  omega

theorem ahead_era {yoe era : Int} (h : 0 ≤ yoe) (h2 : yoe ≤ 399) : ahead (yoe + 400 * era + 1) = 146097 * era + (365 * yoe + yoe / 4 - yoe / 100) := by
  unfold ahead
  omega

theorem num_hi {yoe era doy mp d : Int} (h : 0 ≤ yoe) (h2 : yoe ≤ 399) (hd : doy - (153 * mp + 2) / 5 + 1 = d) (h3 : 0 ≤ mp) (h4 : mp ≤ 9) :
    num (yoe + 400 * era) (mp + 3) d = era * 146097 + (365 * yoe + yoe / 4 - yoe / 100) + doy - 719468 := by
  have h5 := ahead_next (yoe + 400 * era)
  rw [ahead_era h h2] at h5
  unfold num
  rw [cum_hi (by omega) (by omega), Int.add_sub_cancel]
  generalize (365 * yoe + yoe / 4 - yoe / 100) = a at *
  generalize (153 * mp + 2) / 5 = b at *
  omega

theorem num_lo {yoe era doy mp d : Int} (h : 0 ≤ yoe) (h2 : yoe ≤ 399) (hd : doy - (153 * mp + 2) / 5 + 1 = d) (h3 : 10 ≤ mp) (h4 : mp ≤ 11) :
    num (yoe + 400 * era + 1) (mp + 3 - 12) d = era * 146097 + (365 * yoe + yoe / 4 - yoe / 100) + doy - 719468 := by
  have h5 := ahead_era (yoe := yoe) (era := era) h h2
  unfold num
  rw [cum_lo (by omega) (by omega), h5, show mp + 3 - 12 + 9 = mp by omega]
  generalize (365 * yoe + yoe / 4 - yoe / 100) = a at *
  generalize (153 * mp + 2) / 5 = b at *
  omega

theorem day_hi {y doy mp d : Int} (h : 0 ≤ doy) (h2 : doy ≤ 365) (hmp : (5 * doy + 2) / 153 = mp) (hd : doy - (153 * mp + 2) / 5 + 1 = d) (h4 : mp ≤ 9) : 1 ≤ d ∧ d ≤ long y (mp + 3) := by
  have hm : mp = 0 ∨ mp = 1 ∨ mp = 2 ∨ mp = 3 ∨ mp = 4 ∨ mp = 5 ∨ mp = 6 ∨ mp = 7 ∨ mp = 8 ∨ mp = 9 := by omega
  obtain ⟨l1, l2, l3⟩ := long_eq y (mp + 3)
  rcases hm with rfl | rfl | rfl | rfl | rfl | rfl | rfl | rfl | rfl | rfl <;> first
    | (rw [l3 (by omega)]; omega)
    | (rw [l2 (by omega)]; omega)

theorem day_lo {y doy mp d : Int} (h : 0 ≤ doy) (h2 : doy ≤ 365) (h5 : doy ≤ 364 ∨ lp y = 1) (hmp : (5 * doy + 2) / 153 = mp) (hd : doy - (153 * mp + 2) / 5 + 1 = d) (h4 : 10 ≤ mp) : mp ≤ 11 ∧ 1 ≤ d ∧ d ≤ long y (mp + 3 - 12) := by
  have hm : mp = 10 ∨ mp = 11 := by omega
  obtain ⟨l1, l2, l3⟩ := long_eq y (mp + 3 - 12)
  have hl := lp_spec y
  have hl' : 0 ≤ lp y := by rcases hl with h | h <;> omega
  clear hl
  rcases hm with rfl | rfl
  · rw [l3 (by omega)]; omega
  · rw [l1 (by omega)]; omega

theorem F56_eq {n : Int} (h : -719162 ≤ n) (h2 : n ≤ 2932896) : ∃ y m d, Valid y m d ∧ num y m d = n ∧ F56 ((n, ()), ()) = some (((y, m, d, ()), 0, ()), ()) := by
  have hc : (decide (n < -719162) || decide (2932896 < n)) = false := by
    rw [Bool.or_eq_false_iff]
    constructor <;> simp <;> omega
  unfold F56
  rw [F63_eq, Option.bind_some]
  simp only [hc, cond_false]
  generalize hz : n + 719468 = z
  rw [w64_id (n := z) (by omega) (by omega), F55_eq (by omega) (by omega) (by omega) (by omega), Option.bind_some]
  generalize hera : z / 146097 = era
  generalize hdoe : z - era * 146097 = doe
  have hd0 : 0 ≤ doe := by omega
  have hd1 : doe ≤ 146096 := by omega
  have e1 : w64 (z - w64 (era * 146097)) = doe := by
    rw [w64_id (n := era * 146097) (by omega) (by omega), w64_id (by omega) (by omega), hdoe]
  simp only [e1]
  generalize hyoe : (doe - doe / 1460 + doe / 36524 - doe / 146096) / 365 = yoe
  have e2 : w64 (Int.tdiv (w64 (w64 (w64 (doe - w64 (Int.tdiv doe 1460)) + w64 (Int.tdiv doe 36524)) - w64 (Int.tdiv doe 146096))) 365) = yoe := by
    simp (disch := omega) only [w64_id, tdiv_nn]
    exact hyoe
  obtain ⟨y0, y1, y2, y3⟩ := Dt.era hd0 hd1 hyoe.symm
  generalize hdoy : doe - (365 * yoe + yoe / 4 - yoe / 100) = doy at y2 y3
  have e3 : w64 (doe - w64 (w64 (w64 (365 * yoe) + w64 (Int.tdiv yoe 4)) - w64 (Int.tdiv yoe 100))) = doy := by
    simp (disch := omega) only [w64_id, tdiv_nn]
    exact hdoy
  have hdoy1 : doy ≤ 365 := by omega
  generalize hmp : (5 * doy + 2) / 153 = mp
  have e4 : w64 (Int.tdiv (w64 (w64 (5 * doy) + 2)) 153) = mp := by
    simp (disch := omega) only [w64_id, tdiv_nn]
    exact hmp
  generalize hd : doy - (153 * mp + 2) / 5 + 1 = d
  have e5 : w64 (w64 (doy - w64 (Int.tdiv (w64 (w64 (153 * mp) + 2)) 5)) + 1) = d := by
    simp (disch := omega) only [w64_id, tdiv_nn]
    exact hd
  rw [e2, Option.bind_some]
  simp only [e3]
  rw [Option.bind_some]
  simp only [e4]
  rw [Option.bind_some]
  simp only [e5]
  have e6 : w64 (mp + 3) = mp + 3 := w64_id (by omega) (by omega)
  have e7 : w64 (yoe + w64 (400 * era)) = yoe + 400 * era := by
    rw [w64_id (n := 400 * era) (by omega) (by omega), w64_id (by omega) (by omega)]
  rw [e6, e7, Option.bind_some, Option.bind_some]
  have hn : n = era * 146097 + (365 * yoe + yoe / 4 - yoe / 100) + doy - 719468 := by
    generalize (365 * yoe + yoe / 4 - yoe / 100) = a at *
    omega
  have hera0 : 0 ≤ era := by omega
  have hera1 : era ≤ 24 := by omega
  have hmp0 : 0 ≤ mp := by omega
  have hmp1 : mp ≤ 11 := by omega
  have hy9 : -719162 ≤ n ∧ n ≤ 2932896 := ⟨h, h2⟩
  clear e1 e2 e3 e4 e5 hyoe hdoy hdoe hera hz
  have hlast : era = 24 → 365 * yoe + yoe / 4 - yoe / 100 + doy ≤ 146036 := by omega
  by_cases h12 : 12 < mp + 3
  · have hc2 : decide (12 < mp + 3) = true := by simpa using h12
    have hl := lp_spec (yoe + 400 * era + 1)
    have hlp : doy ≤ 364 ∨ lp (yoe + 400 * era + 1) = 1 := by
      rcases y3 with y3 | ⟨_, y3⟩
      · exact .inl y3
      · right
        rcases hl with hl | ⟨_, hl⟩
        · exact hl.1
        · exfalso; omega
    obtain ⟨k1, k2, k3⟩ := day_lo (y := yoe + 400 * era + 1) y2 hdoy1 hlp hmp hd (by omega)
    have hyy : yoe + 400 * era + 1 ≤ 9999 := by
      by_cases he : era = 24
      · have := hlast he
        subst he
        clear hl hlp hn hlast y3
        omega
      · omega
    simp only [hc2, cond_true, Option.bind_some]
    refine ⟨yoe + 400 * era + 1, mp + 3 - 12, d, ⟨by omega, hyy, by omega, by omega, k2, k3⟩, ?_, ?_⟩
    · rw [num_lo y0 y1 hd (by omega) k1, hn]
    · rw [w64_id (n := yoe + 400 * era + 1) (by omega) (by omega), w64_id (n := mp + 3 - 12) (by omega) (by omega)]
  · have hc2 : decide (12 < mp + 3) = false := by simpa using h12
    obtain ⟨k2, k3⟩ := day_hi (y := yoe + 400 * era) y2 hdoy1 hmp hd (by omega)
    have hy1 : 1 ≤ yoe + 400 * era := by
      by_cases he : era = 0
      · subst he
        have : 306 ≤ (365 * yoe + yoe / 4 - yoe / 100) + doy := by omega
        clear hn hlast y3
        by_cases hy : yoe = 0
        · subst hy
          simp at this
          omega
        · omega
      · omega
    have hyy : yoe + 400 * era ≤ 9999 := by omega
    simp only [hc2, cond_false, Option.bind_some]
    refine ⟨yoe + 400 * era, mp + 3, d, ⟨hy1, hyy, by omega, by omega, k2, k3⟩, ?_, rfl⟩
    rw [num_hi y0 y1 hd hmp0 (by omega), hn]

end Go.Dt

namespace Go.Dt
open Go Go.Ev

theorem ahead_mono {a b : Int} (h : a ≤ b) : ahead a ≤ ahead b := by
  unfold ahead; omega

theorem cum_mono (y : Int) {a : Int} (h : 1 ≤ a) : ∀ k : Nat, a + k ≤ 12 → cum y a ≤ cum y (a + k)
  | 0, _ => by simp
  | k + 1, h2 => by
    have h3 := cum_mono y h k (by omega)
    have h4 := @cum_step y (a + k) (by omega) (by omega)
    have h5 := long_ge y (a + k)
    have h6 : a + ((k + 1 : Nat) : Int) = a + k + 1 := by omega
    rw [h6, h4]
    omega

theorem cum_mono' (y : Int) {a b : Int} (h : 1 ≤ a) (h2 : a ≤ b) (h3 : b ≤ 12) : cum y a ≤ cum y b := by
  have := cum_mono y h (b - a).toNat (by omega)
  rwa [show a + ((b - a).toNat : Int) = b by omega] at this

theorem L11a {k y y0 : Int} (h0 : 1 ≤ y0) (h1 : y0 ≤ y) (h2 : y ≤ 9999) (h3 : ahead y ≤ k) (h4 : k < ahead (y + 1)) : L66_0 (((), k, y0, ()), (0, 0, 0, ()), ()) = some (((), k, y, ()), (0, 0, 0, ()), ()) := by
  obtain ⟨r, e1, e2⟩ := loop_ind (f := B66_0) (fun p => ∃ y', 1 ≤ y' ∧ y' ≤ y ∧ p = (((), k, y', ()), (0, 0, 0, ()), ())) (fun p => (y - p.1.2.2.1).toNat) (fun r => r = (((), k, y, ()), (0, 0, 0, ()), ()))
    (fun p ⟨y', hy1, hy2, hp⟩ => by
      subst hp
      have e1 : w64 (y' + 1) = y' + 1 := w64_id (by omega) (by omega)
      by_cases hlt : y' < y
      · left
        have hle : ahead (y' + 1) ≤ k := Int.le_trans (ahead_mono (by omega)) h3
        refine ⟨_, by simp only [B66_0, e1, F52_eq (show 1 ≤ y' + 1 by omega) (show y' + 1 ≤ 20000 by omega), Option.bind_some, hle, decide_true, cond_true] <;> rfl, ⟨y' + 1, by omega, by omega, rfl⟩, ?_⟩
        simp only
        omega
      · right
        have : y' = y := by omega
        subst this
        have hnle : ¬ ahead (y' + 1) ≤ k := by omega
        exact ⟨_, by simp only [B66_0, e1, F52_eq (show 1 ≤ y' + 1 by omega) (show y' + 1 ≤ 20000 by omega), Option.bind_some, hnle, decide_false, cond_false] <;> rfl, rfl⟩)
    (p := (((), k, y0, ()), (0, 0, 0, ()), ())) ⟨y0, h0, h1, rfl⟩ (by unfold FUEL; simp only; omega)
  rw [e2] at e1
  exact e1

theorem L11b {y m d : Int} (h : Valid y m d) : L66_1 (((), cum y m + d - 1, y, 1, ()), (0, 0, 0, ()), ()) = some (((), d - 1, y, m, ()), (0, 0, 0, ()), ()) := by
  obtain ⟨a1, a2, a3, a4, a5, a6⟩ := h
  have hl31 := long_le y m
  obtain ⟨r, e1, e2⟩ := loop_ind (f := B66_1) (fun p => ∃ i, 1 ≤ i ∧ i ≤ m ∧ p = (((), cum y m - cum y i + d - 1, y, i, ()), (0, 0, 0, ()), ())) (fun p => (m - p.1.2.2.2.1).toNat) (fun r => r = (((), d - 1, y, m, ()), (0, 0, 0, ()), ()))
    (fun p ⟨i, hi1, hi2, hp⟩ => by
      subst hp
      have hb := @cum_bd y i hi1 (by omega)
      have hb2 := @cum_bd y m a3 a4
      have hl := long_le y i
      have hl2 := long_ge y i
      by_cases hlt : i < m
      · left
        have hs := @cum_step y i hi1 (by omega)
        have hm := cum_mono' y (a := i + 1) (b := m) (by omega) (by omega) a4
        have hle : long y i ≤ cum y m - cum y i + d - 1 := by omega
        refine ⟨_, by simp only [B66_1, F53_eq a1 hi1 (show i ≤ 12 by omega), Option.bind_some, hle, decide_true, cond_true] <;> rfl, ⟨i + 1, by omega, by omega, ?_⟩, ?_⟩
        · rw [w64_id (by omega) (by omega), w64_id (by omega) (by omega), hs]
          congr 3
          omega
        · rw [w64_id (n := i + 1) (by omega) (by omega)]
          simp only
          omega
      · right
        have : i = m := by omega
        subst this
        have hnle : ¬ long y i ≤ cum y i - cum y i + d - 1 := by omega
        refine ⟨_, by simp only [B66_1, F53_eq a1 hi1 (show i ≤ 12 by omega), Option.bind_some, hnle, decide_false, cond_false] <;> rfl, ?_⟩
        rw [Int.sub_self, Int.zero_add])
    (p := (((), cum y m + d - 1, y, 1, ()), (0, 0, 0, ()), ())) ⟨1, by omega, by omega, by simp [cum]⟩ (by unfold FUEL; simp only; omega)
  rw [e2] at e1
  exact e1

theorem ahead_1970 : ahead 1970 = 719162 := by decide
theorem ahead_10000 : ahead 10000 = 3652059 := by decide

theorem F66_out {n : Int} (h : n < -719162 ∨ 2932896 < n) : F66 ((n, ()), ()) = some (((0, 0, 0, ()), 2, ()), ()) := by
  simp only [F66, F52_eq (show (1 : Int) ≤ 1970 by omega) (show (1970 : Int) ≤ 20000 by omega), F52_eq (show (1 : Int) ≤ 10000 by omega) (show (10000 : Int) ≤ 20000 by omega), Option.bind_some, ahead_1970, ahead_10000]
  rw [w64_id (n := 0 - 719162) (by omega) (by omega), w64_id (n := 3652059 - 719162) (by omega) (by omega), w64_id (n := 3652059 - 719162 - 1) (by omega) (by omega)]
  have hc : (decide (n < 0 - 719162) || decide (3652059 - 719162 - 1 < n)) = true := by
    simp only [Bool.or_eq_true, decide_eq_true_eq]; omega
  rw [hc, cond_true]

theorem F66_eq {y m d n : Int} (h : Valid y m d) (hn : num y m d = n) : F66 ((n, ()), ()) = some (((y, m, d, ()), 0, ()), ()) := by
  have hb := L11b h
  obtain ⟨a1, a2, a3, a4, a5, a6⟩ := h
  have hcum := @cum_bd y m a3 a4
  have hl31 := long_le y m
  have hah : 0 ≤ ahead y ∧ ahead y ≤ 3651694 := by unfold ahead; omega
  unfold num at hn
  have hnext := ahead_next y
  have hyear : cum y m + d - 1 < 365 + lp y := by
    by_cases h12 : m = 12
    · subst h12
      have : cum y 12 = 334 + lp y := by simp [cum]
      omega
    · have h1 := @cum_step y m a3 (by omega)
      have h2 := cum_mono' y (a := m + 1) (b := 12) (by omega) (by omega) (by omega)
      have : cum y 12 = 334 + lp y := by simp [cum]
      omega
  have hlp := lp_spec y
  have hlp1 : lp y ≤ 1 := by rcases hlp with h | h <;> omega
  have h366 : ahead (y + 1) ≤ 366 * y := by unfold ahead; omega
  clear hlp
  have htop : ahead (y + 1) ≤ 3652059 := by
    have := ahead_mono (a := y + 1) (b := 10000) (by omega)
    rw [ahead_10000] at this
    exact this
  simp only [F66, F52_eq (show (1 : Int) ≤ 1970 by omega) (show (1970 : Int) ≤ 20000 by omega), F52_eq (show (1 : Int) ≤ 10000 by omega) (show (10000 : Int) ≤ 20000 by omega), Option.bind_some, ahead_1970, ahead_10000]
  rw [w64_id (n := 0 - 719162) (by omega) (by omega), w64_id (n := 3652059 - 719162) (by omega) (by omega), w64_id (n := 3652059 - 719162 - 1) (by omega) (by omega)]
  have hc : (decide (n < 0 - 719162) || decide (3652059 - 719162 - 1 < n)) = false := by
    rw [Bool.or_eq_false_iff]; constructor <;> simp <;> omega
  rw [hc, cond_false, w64_id (n := n - (0 - 719162)) (by omega) (by omega)]
  generalize hk : n - (0 - 719162) = k
  rw [tdiv_nn (by omega), w64_id (n := k / 366) (by omega) (by omega), w64_id (n := k / 366 + 1) (by omega) (by omega), L11a (y := y) (by omega) (by omega) a2 (by omega) (by omega)]
  simp only [Option.bind_some, F52_eq a1 (show y ≤ 20000 by omega)]
  rw [w64_id (n := k - ahead y) (by omega) (by omega), show k - ahead y = cum y m + d - 1 by omega, hb]
  simp only [Option.bind_some]
  rw [w64_id (by omega) (by omega), show d - 1 + 1 = d by omega]

/-- Both ways to a number's day. -/
theorem civil (n : Int) : (∃ y m d, Valid y m d ∧ num y m d = n ∧ F56 ((n, ()), ()) = some (((y, m, d, ()), 0, ()), ()) ∧ F66 ((n, ()), ()) = some (((y, m, d, ()), 0, ()), ())) ∨
    (F56 ((n, ()), ()) = some (((0, 0, 0, ()), 2, ()), ()) ∧ F66 ((n, ()), ()) = some (((0, 0, 0, ()), 2, ()), ())) := by
  by_cases h : -719162 ≤ n ∧ n ≤ 2932896
  · obtain ⟨y, m, d, h1, h2, h3⟩ := F56_eq h.1 h.2
    exact .inl ⟨y, m, d, h1, h2, h3, F66_eq h1 h2⟩
  · have : n < -719162 ∨ 2932896 < n := by omega
    exact .inr ⟨F56_out this, F66_out this⟩

end Go.Dt

namespace Go.Dt
open Go Go.Ev
set_option maxRecDepth 100000
theorem live12 : F10 ((), ()) = some (true, ()) := by kernel_rfl
end Go.Dt
