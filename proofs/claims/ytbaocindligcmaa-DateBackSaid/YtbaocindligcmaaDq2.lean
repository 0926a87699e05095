/- texts -/
import Derived.Test.YtbaocindligcmaaG1
import Derived.Test.YtbaocindligcmaaDq1
namespace Go.Dt
open Go Go.Ev
set_option maxRecDepth 100000
theorem live12 : F12 ((), ()) = some (true, ()) := by kernel_rfl
#print axioms live12
#print F3
#print F4
#print F5
#print F13
#print F14
end Go.Dt

namespace Go.Dt
open Go Go.Ev

theorem week_eq (n : Int) : ∃ k, F13 ((n, ()), ()) = some (k, ()) ∧ F14 ((n, ()), ()) = some (k, ()) ∧ 0 ≤ k ∧ k ≤ 6 ∧ (n + 3 - k) % 7 = 0 := by
  have h1 : -7 < n.tmod 7 := Int.lt_tmod_of_pos n (by omega)
  have h2 : n.tmod 7 < 7 := Int.tmod_lt_of_pos n (by omega)
  have h3 : (n - n.tmod 7) % 7 = 0 := by
    have := Int.mul_tdiv_add_tmod n 7
    omega
  generalize hr : n.tmod 7 = r at *
  simp only [F13, F14, hr]
  have hr' : r = -6 ∨ r = -5 ∨ r = -4 ∨ r = -3 ∨ r = -2 ∨ r = -1 ∨ r = 0 ∨ r = 1 ∨ r = 2 ∨ r = 3 ∨ r = 4 ∨ r = 5 ∨ r = 6 := by omega
  clear hr
  rcases hr' with rfl | rfl | rfl | rfl | rfl | rfl | rfl | rfl | rfl | rfl | rfl | rfl | rfl
  · exact ⟨4, rfl, rfl, by omega, by omega, by omega⟩
  · exact ⟨5, rfl, rfl, by omega, by omega, by omega⟩
  · exact ⟨6, rfl, rfl, by omega, by omega, by omega⟩
  · exact ⟨0, rfl, rfl, by omega, by omega, by omega⟩
  · exact ⟨1, rfl, rfl, by omega, by omega, by omega⟩
  · exact ⟨2, rfl, rfl, by omega, by omega, by omega⟩
  · exact ⟨3, rfl, rfl, by omega, by omega, by omega⟩
  · exact ⟨4, rfl, rfl, by omega, by omega, by omega⟩
  · exact ⟨5, rfl, rfl, by omega, by omega, by omega⟩
  · exact ⟨6, rfl, rfl, by omega, by omega, by omega⟩
  · exact ⟨0, rfl, rfl, by omega, by omega, by omega⟩
  · exact ⟨1, rfl, rfl, by omega, by omega, by omega⟩
  · exact ⟨2, rfl, rfl, by omega, by omega, by omega⟩

theorem days (y m d : Int) : (Valid y m d ∧ F8 (((y, m, d, ()), ()), ()) = some ((num y m d, 0, ()), ()) ∧ F9 (((y, m, d, ()), ()), ()) = some ((num y m d, 0, ()), ())) ∨
    (¬ Valid y m d ∧ F8 (((y, m, d, ()), ()), ()) = some ((0, 2, ()), ()) ∧ F9 (((y, m, d, ()), ()), ()) = some ((0, 2, ()), ())) := by
  by_cases h : Valid y m d
  · exact .inl ⟨h, F8_eq h, F9_eq h⟩
  · exact .inr ⟨h, F8_bad h, F9_bad h⟩

/-- DateDays is true. -/
theorem law3 (y m d n : Int) : F3 (((y, m, d, ()), n, ()), ()) = some (true, ()) := by
  obtain ⟨k, k1, k2, _⟩ := week_eq n
  have h1 : ∃ a b, F8 (((y, m, d, ()), ()), ()) = some ((a, b, ()), ()) ∧ F9 (((y, m, d, ()), ()), ()) = some ((a, b, ()), ()) := by
    rcases days y m d with ⟨_, h1, h2⟩ | ⟨_, h1, h2⟩
    · exact ⟨_, _, h1, h2⟩
    · exact ⟨_, _, h1, h2⟩
  have h2 : ∃ y m d b, F10 ((n, ()), ()) = some (((y, m, d, ()), b, ()), ()) ∧ F11 ((n, ()), ()) = some (((y, m, d, ()), b, ()), ()) := by
    rcases civil n with ⟨y, m, d, _, _, h1, h2⟩ | ⟨h1, h2⟩
    · exact ⟨_, _, _, _, h1, h2⟩
    · exact ⟨_, _, _, _, h1, h2⟩
  obtain ⟨a, b, e1, e2⟩ := h1
  obtain ⟨y', m', d', b', e3, e4⟩ := h2
  simp only [F3, e1, e2, e3, e4, live12, k1, k2, Option.bind_some, decide_true, Bool.and_self, cond_true]

/-- What a day's number leads to is the day. -/
theorem back {y m d : Int} (h : Valid y m d) : F10 ((num y m d, ()), ()) = some (((y, m, d, ()), 0, ()), ()) := by
  have h1 := F11_eq h rfl
  rcases civil (num y m d) with ⟨y', m', d', _, _, h2, h3⟩ | ⟨_, h3⟩
  · rw [h1] at h3
    rw [h2, ← h3]
  · rw [h1] at h3
    simp at h3

/-- DateDayBack is true. -/
theorem law4 (y m d n : Int) : F4 (((y, m, d, ()), n, ()), ()) = some (true, ()) := by
  have part2 : ∃ y2 m2 d2 b2 a3 b3, F10 ((n, ()), ()) = some (((y2, m2, d2, ()), b2, ()), ()) ∧ F8 (((y2, m2, d2, ()), ()), ()) = some ((a3, b3, ()), ()) ∧ (!decide (b2 = 0) || decide (b3 = 0) && decide (a3 = n)) = true := by
    rcases civil n with ⟨y2, m2, d2, h1, h2, h3, _⟩ | ⟨h3, _⟩
    · exact ⟨_, _, _, _, _, _, h3, F8_eq h1, by rw [h2]; simp⟩
    · refine ⟨_, _, _, _, _, _, h3, F8_bad (fun h => by have := h.y1; omega), by simp⟩
  obtain ⟨y2, m2, d2, b2, a3, b3, e3, e4, e5⟩ := part2
  rcases days y m d with ⟨h1, h2, _⟩ | ⟨h1, h2, _⟩
  · have h4 := back h1
    simp only [F4, h2, h4, e3, e4, live12, Option.bind_some]
    simp only [decide_true, Bool.not_true, Bool.false_or, Bool.and_self, e5]
  · obtain ⟨y4, m4, d4, b4, h4⟩ : ∃ y m d b, F10 (((0 : Int), ()), ()) = some (((y, m, d, ()), b, ()), ()) := by
      rcases civil 0 with ⟨_, _, _, _, _, h, _⟩ | ⟨h, _⟩
      · exact ⟨_, _, _, _, h⟩
      · exact ⟨_, _, _, _, h⟩
    simp only [F4, h2, h4, e3, e4, live12, Option.bind_some]
    rw [e5]
    simp

end Go.Dt

namespace Go.Dt
open Go Go.Ev

theorem F15_eq {y m d : Int} : ∃ b, F15 (((y, m, d, ()), ()), ()) = some (b, ()) ∧ (b = true ↔ Valid y m d) := by
  obtain ⟨b, _, h2, h3⟩ := @F25_eq y m d
  exact ⟨b, h2, h3⟩

theorem F8_any (y m d : Int) : ∃ a b, F8 (((y, m, d, ()), ()), ()) = some ((a, b, ()), ()) := by
  rcases days y m d with ⟨_, h1, _⟩ | ⟨_, h1, _⟩
  · exact ⟨_, _, h1⟩
  · exact ⟨_, _, h1⟩

/-- The number behind the last of a month, and of a year. -/
theorem num_month {y m : Int} (h : 1 ≤ m) (h2 : m ≤ 11) : num y (m + 1) 1 = num y m (long y m) + 1 := by
  unfold num
  rw [cum_step h h2]
  omega

theorem num_year {y : Int} : num (y + 1) 1 1 = num y 12 31 + 1 := by
  unfold num
  rw [ahead_next]
  have : cum y 12 = 334 + lp y := by simp [cum]
  have h1 : cum (y + 1) 1 = 0 := by simp [cum]
  rw [this, h1]
  omega

theorem long_12 (y : Int) : long y 12 = 31 := by simp [long]

theorem week_next (n : Int) : ∃ a b, F13 ((n, ()), ()) = some (a, ()) ∧ F13 ((n + 1, ()), ()) = some (b, ()) ∧ b = (w64 (a + 1)).tmod 7 := by
  obtain ⟨a, h1, _, h3, h4, h5⟩ := week_eq n
  obtain ⟨b, g1, _, g3, g4, g5⟩ := week_eq (n + 1)
  refine ⟨a, b, h1, g1, ?_⟩
  rw [w64_id (by omega) (by omega), tmod_nn (by omega)]
  omega

theorem num_bd {y m d : Int} (h : Valid y m d) : -1000000000 ≤ num y m d ∧ num y m d ≤ 1000000000 := by
  obtain ⟨a1, a2, a3, a4, a5, a6⟩ := h
  have := @cum_bd y m a3 a4
  have := long_le y m
  have hah : 0 ≤ ahead y ∧ ahead y ≤ 3651694 := by unfold ahead; omega
  unfold num
  omega

/-- DateNext is true. -/
theorem law5 (y m d : Int) : F5 (((y, m, d, ()), ()), ()) = some (true, ()) := by
  rcases days y m d with ⟨hv, h1, _⟩ | ⟨hv, h1, _⟩
  · obtain ⟨a1, a2, a3, a4, a5, a6⟩ := hv
    have hv : Valid y m d := ⟨a1, a2, a3, a4, a5, a6⟩
    have hl31 := long_le y m
    have hl28 := long_ge y m
    have hbd := num_bd hv
    obtain ⟨wa, wb, w1, w2, w3⟩ := week_next (num y m d)
    have wn : w64 (num y m d + 1) = num y m d + 1 := w64_id (by omega) (by omega)
    simp only [F5, h1, Option.bind_some, decide_true, Bool.not_true, cond_false, F16_eq a1 a3 a4, live12]
    rw [w64_id (n := d + 1) (by omega) (by omega)]
    by_cases hd : long y m < d + 1
    · have hdd : d = long y m := by omega
      have hc : decide (long y m < d + 1) = true := by simpa using hd
      simp only [hc, cond_true, Option.bind_some]
      rw [w64_id (n := m + 1) (by omega) (by omega)]
      by_cases hm : 12 < m + 1
      · have hmm : m = 12 := by omega
        have hc2 : decide (12 < m + 1) = true := by simpa using hm
        simp only [hc2, cond_true, Option.bind_some]
        rw [w64_id (n := y + 1) (by omega) (by omega)]
        by_cases hy : 9999 < y + 1
        · have hc3 : decide (9999 < y + 1) = true := by simpa using hy
          have hbad : ¬ Valid (y + 1) 1 1 := fun h => by have := h.y2; omega
          simp only [F8_bad hbad, Option.bind_some, hc3, cond_true, decide_true, Bool.and_self]
        · have hc3 : decide (9999 < y + 1) = false := by simpa using hy
          have hgood : Valid (y + 1) 1 1 := ⟨by omega, by omega, by omega, by omega, by omega, by have := long_ge (y + 1) 1; omega⟩
          have hn : num (y + 1) 1 1 = num y m d + 1 := by rw [num_year, hdd, hmm, long_12]
          simp only [F8_eq hgood, Option.bind_some, hc3, cond_false, hn, wn, decide_true, Bool.and_self, cond_true, w1, w2, ← w3]
      · have hc2 : decide (12 < m + 1) = false := by simpa using hm
        have hc3 : decide (9999 < y) = false := by simp; omega
        have hgood : Valid y (m + 1) 1 := ⟨by omega, by omega, by omega, by omega, by omega, by have := long_ge y (m + 1); omega⟩
        have hn : num y (m + 1) 1 = num y m d + 1 := by rw [num_month a3 (by omega), hdd]
        simp only [hc2, cond_false, Option.bind_some, F8_eq hgood, hc3, hn, wn, decide_true, Bool.and_self, cond_true, w1, w2, ← w3]
    · have hc : decide (long y m < d + 1) = false := by simpa using hd
      have hc2 : decide (12 < m) = false := by simp; omega
      have hc3 : decide (9999 < y) = false := by simp; omega
      have hgood : Valid y m (d + 1) := ⟨by omega, by omega, by omega, by omega, by omega, by omega⟩
      have hn : num y m (d + 1) = num y m d + 1 := by unfold num; omega
      simp only [hc, cond_false, Option.bind_some, hc2, F8_eq hgood, hc3, hn, wn, decide_true, Bool.and_self, cond_true, w1, w2, ← w3]
  · obtain ⟨b, h2, h3⟩ := @F15_eq y m d
    have hb : b = false := by cases b <;> simp_all
    subst hb
    have hz : decide ((2 : Int) = 0) = false := by decide
    simp only [F5, h1, Option.bind_some, hz, Bool.not_false, cond_true, live12, decide_true, Bool.and_self, h2]

end Go.Dt

namespace Go.Dt
open Go Go.Ev
set_option maxRecDepth 100000

theorem of_len {o : Option (List UInt8 × Unit)} {n : Nat} (h : o.map (fun r => r.1.length) = some n) : ∃ l, o = some (l, ()) ∧ l.length = n := by
  cases o with
  | none => cases h
  | some x =>
    obtain ⟨l, u⟩ := x
    simp only [Option.map_some, Option.some.injEq] at h
    exact ⟨l, rfl, h⟩

theorem digits4 (v : Int) : ∃ l, F34 ((v, 4, ()), ()) = some (l, ()) ∧ F38 ((v, 4, ()), ()) = some (l, ()) ∧ l.length = 4 := by
  have h1 : F34 ((v, 4, ()), ()) = F38 ((v, 4, ()), ()) := by kernel_rfl
  have h2 : (F34 ((v, 4, ()), ())).map (fun r => r.1.length) = some 4 := by kernel_rfl
  obtain ⟨l, h3, h4⟩ := of_len h2
  exact ⟨l, h3, by rw [← h1, h3], h4⟩

theorem digits2 (v : Int) : ∃ l, F34 ((v, 2, ()), ()) = some (l, ()) ∧ F38 ((v, 2, ()), ()) = some (l, ()) ∧ l.length = 2 := by
  have h1 : F34 ((v, 2, ()), ()) = F38 ((v, 2, ()), ()) := by kernel_rfl
  have h2 : (F34 ((v, 2, ()), ())).map (fun r => r.1.length) = some 2 := by kernel_rfl
  obtain ⟨l, h3, h4⟩ := of_len h2
  exact ⟨l, h3, by rw [← h1, h3], h4⟩

theorem clock (v : Int) : ∃ l, F35 ((v, ()), ()) = some (l, ()) ∧ F41 ((v, ()), ()) = some (l, ()) ∧ l.length = 8 := by
  have h1 : F35 ((v, ()), ()) = F41 ((v, ()), ()) := by kernel_rfl
  have h2 : (F35 ((v, ()), ())).map (fun r => r.1.length) = some 8 := by kernel_rfl
  obtain ⟨l, h3, h4⟩ := of_len h2
  exact ⟨l, h3, by rw [← h1, h3], h4⟩

theorem zone (v : Int) : ∃ l, F36 ((v, ()), ()) = some (l, ()) ∧ F42 ((v, ()), ()) = some (l, ()) ∧ l.length = 5 := by
  have h1 : F36 ((v, ()), ()) = F42 ((v, ()), ()) := by
    simp only [F36, F42]
    cases decide (v < 0)
    · kernel_rfl
    · kernel_rfl
  have h2 : (F36 ((v, ()), ())).map (fun r => r.1.length) = some 5 := by
    simp only [F36]
    cases decide (v < 0)
    · kernel_rfl
    · kernel_rfl
  obtain ⟨l, h3, h4⟩ := of_len h2
  exact ⟨l, h3, by rw [← h1, h3], h4⟩

/-- The day of a month, in one or two letters. -/
def ckDay (d : Int) : Bool :=
  match F31 ((d, ()), ()), F38 ((d, 2, ()), ()) with
  | some ((td, e, _), _), some (l2, _) => decide (e = 0) && decide (td.length ≤ 2) && decide (td = cond (decide (d < 10)) (List.take 1 (List.drop 1 l2)) l2)
  | _, _ => false

theorem ckDays : ((List.range 31).all fun n => ckDay ((n : Int) + 1)) = true := by kernel_rfl

theorem ckDay_all {d : Int} (h : 1 ≤ d) (h2 : d ≤ 31) : ckDay d = true := by
  have h3 := List.all_eq_true.1 ckDays (d - 1).toNat (List.mem_range.2 (by omega))
  rwa [show ((d - 1).toNat : Int) + 1 = d by omega] at h3

theorem dayText {d : Int} (h : 1 ≤ d) (h2 : d ≤ 31) : ∃ td l2, F31 ((d, ()), ()) = some ((td, 0, ()), ()) ∧ F34 ((d, 2, ()), ()) = some (l2, ()) ∧ F38 ((d, 2, ()), ()) = some (l2, ()) ∧ l2.length = 2 ∧ td.length ≤ 2 ∧ td = cond (decide (d < 10)) (List.take 1 (List.drop 1 l2)) l2 := by
  obtain ⟨l2, g1, g2, g3⟩ := digits2 d
  have hc := ckDay_all h h2
  unfold ckDay at hc
  rw [g2] at hc
  cases h31 : F31 ((d, ()), ()) with
  | none => simp [h31] at hc
  | some x =>
    obtain ⟨⟨td, e, u⟩, u'⟩ := x
    simp only [h31, Bool.and_eq_true, decide_eq_true_eq] at hc
    obtain ⟨⟨h4, h5⟩, h6⟩ := hc
    subst h4
    exact ⟨td, l2, rfl, g1, g2, g3, h5, h6⟩

theorem fits_true {n : Nat} (h : n ≤ 1000) : fits n = true := by
  unfold fits
  simp
  omega

end Go.Dt
