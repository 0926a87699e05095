/- A moment's texts. -/
import Derived.Test.YtbaocindligcmaaDq2
namespace Go.Dt
open Go Go.Ev

theorem floor_eq {t q : Int} (hq : q = t.tdiv 86400) : (t < q * 86400 → q - 1 = t / 86400) ∧ (¬ t < q * 86400 → q = t / 86400) := by
  by_cases h : 0 ≤ t
  · rw [tdiv_nn h] at hq
    omega
  · have h1 : 0 ≤ -t := by omega
    have h2 : t.tdiv 86400 = -((-t) / 86400) := by
      rw [← tdiv_nn h1, Int.neg_tdiv]; omega
    rw [h2] at hq
    omega

theorem civil_err (n : Int) : ∃ y m d e, F11 ((n, ()), ()) = some (((y, m, d, ()), e, ()), ()) ∧ decide (e = 0) = (decide (-719162 ≤ n) && decide (n ≤ 2932896)) := by
  by_cases h : -719162 ≤ n ∧ n ≤ 2932896
  · obtain ⟨y, m, d, h1, h2, _⟩ := F10_eq h.1 h.2
    refine ⟨y, m, d, 0, F11_eq h1 h2, ?_⟩
    simp [h.1, h.2]
  · have : n < -719162 ∨ 2932896 < n := by omega
    refine ⟨0, 0, 0, 2, F11_out this, ?_⟩
    rcases this with h | h
    · have : decide (-719162 ≤ n) = false := by simpa using h
      rw [this]; rfl
    · have : decide (n ≤ 2932896) = false := by simpa using h
      rw [this, Bool.and_false]; rfl

/-- The reference's day and second, where it looks. -/
theorem F37_in {s z : Int} (h1 : -1439 ≤ z) (h2 : z ≤ 1439) (h3 : -100000000000 ≤ s) (h4 : s ≤ 1000000000000) :
    F37 (((s, z, ()), ()), ()) = some (((s + 60 * z) / 86400, s + 60 * z - (s + 60 * z) / 86400 * 86400, decide (-719162 ≤ (s + 60 * z) / 86400) && decide ((s + 60 * z) / 86400 ≤ 2932896), ()), ()) := by
  have hc : (decide (z < -1439) || decide (1439 < z) || decide (s < -100000000000) || decide (1000000000000 < s)) = false := by
    simp only [Bool.or_eq_false_iff, decide_eq_false_iff_not]; omega
  simp only [F37, hc, cond_false]
  rw [w64_id (n := 60 * z) (by omega) (by omega), w64_id (n := s + 60 * z) (by omega) (by omega)]
  generalize ht : s + 60 * z = t
  have ht1 : -100000100000 ≤ t := by omega
  have ht2 : t ≤ 1000000100000 := by omega
  obtain ⟨f1, f2⟩ := floor_eq (t := t) rfl
  generalize hq : t.tdiv 86400 = q at f1 f2
  generalize hd : t / 86400 = day at f1 f2
  have hqb : -100000000 ≤ q ∧ q ≤ 100000000 := by
    by_cases h : t < q * 86400
    · have := f1 h; omega
    · have := f2 h; omega
  rw [w64_id (n := q) (by omega) (by omega), Option.bind_some]
  simp only []
  rw [w64_id (n := q * 86400) (by omega) (by omega), Option.bind_some]
  obtain ⟨y, m, d, e, e1, e2⟩ := civil_err day
  by_cases h : t < q * 86400
  · have hc2 : decide (t < q * 86400) = true := by simpa using h
    simp only [hc2, cond_true, Option.bind_some]
    rw [w64_id (n := q - 1) (by omega) (by omega), f1 h, e1, Option.bind_some]
    simp only [e2]
    rw [w64_id (n := 86400 * day) (by omega) (by omega), w64_id (by omega) (by omega), Int.mul_comm 86400 day]
  · have hc2 : decide (t < q * 86400) = false := by simpa using h
    simp only [hc2, cond_false, Option.bind_some]
    rw [f2 h, e1, Option.bind_some]
    simp only [e2]
    rw [w64_id (n := 86400 * day) (by omega) (by omega), w64_id (by omega) (by omega), Int.mul_comm 86400 day]

theorem there (s z : Int) : (∃ day rest y m d, F30 (((s, z, ()), ()), ()) = some ((day, rest, true, ()), ()) ∧ F37 (((s, z, ()), ()), ()) = some ((day, rest, true, ()), ()) ∧ Valid y m d ∧ F10 ((day, ()), ()) = some (((y, m, d, ()), 0, ()), ()) ∧ F11 ((day, ()), ()) = some (((y, m, d, ()), 0, ()), ())) ∨
    (∃ a b c d, F30 (((s, z, ()), ()), ()) = some ((a, b, false, ()), ()) ∧ F37 (((s, z, ()), ()), ()) = some ((c, d, false, ()), ())) := by
  have w1 : w64 (w64 (-719162 - 2) * 86400) = -62135769600 := by decide
  have w2 : w64 (w64 (2932896 + 2) * 86400) = 253402387200 := by decide
  by_cases hz : z < -1439 ∨ 1439 < z
  · right
    have hc : (decide (z < -1439) || decide (1439 < z)) = true := by simpa using hz
    exact ⟨0, 0, 0, 0, by simp only [F30, F28_eq, Option.bind_some, hc, Bool.true_or, cond_true], by simp only [F37, hc, Bool.true_or, cond_true]⟩
  · have hz1 : -1439 ≤ z := by omega
    have hz2 : z ≤ 1439 := by omega
    by_cases hs : s < -62135769600 ∨ 253402387200 < s
    · right
      have hc : (decide (z < -1439) || decide (1439 < z) || decide (s < -62135769600) || decide (253402387200 < s)) = true := by
        simp only [Bool.or_eq_true, decide_eq_true_eq]; omega
      have e30 : F30 (((s, z, ()), ()), ()) = some ((0, 0, false, ()), ()) := by
        simp only [F30, F28_eq, Option.bind_some, w1, w2, hc, cond_true]
      by_cases hs2 : s < -100000000000 ∨ 1000000000000 < s
      · have hc : (decide (z < -1439) || decide (1439 < z) || decide (s < -100000000000) || decide (1000000000000 < s)) = true := by
          simp only [Bool.or_eq_true, decide_eq_true_eq]; omega
        exact ⟨0, 0, 0, 0, e30, by simp only [F37, hc, cond_true]⟩
      · have e37 := F37_in hz1 hz2 (s := s) (by omega) (by omega)
        have hf : (decide (-719162 ≤ (s + 60 * z) / 86400) && decide ((s + 60 * z) / 86400 ≤ 2932896)) = false := by
          rw [Bool.and_eq_false_iff]
          rcases hs with hs | hs
          · left; simp; omega
          · right; simp; omega
        rw [hf] at e37
        exact ⟨0, 0, _, _, e30, e37⟩
    · have e37 := F37_in hz1 hz2 (s := s) (by omega) (by omega)
      have hc : (decide (z < -1439) || decide (1439 < z) || decide (s < -62135769600) || decide (253402387200 < s)) = false := by
        simp only [Bool.or_eq_false_iff, decide_eq_false_iff_not]; omega
      have e30 : F30 (((s, z, ()), ()), ()) = some (((s + 60 * z) / 86400, s + 60 * z - (s + 60 * z) / 86400 * 86400, decide (-719162 ≤ (s + 60 * z) / 86400) && decide ((s + 60 * z) / 86400 ≤ 2932896), ()), ()) := by
        simp only [F30, F28_eq, Option.bind_some, w1, w2, hc, cond_false]
        rw [w64_id (n := 60 * z) (by omega) (by omega), w64_id (n := s + 60 * z) (by omega) (by omega), F26_eq (by omega) (by omega) (by omega) (by omega), Option.bind_some]
        simp only []
        generalize ht : s + 60 * z = t
        have ht1 : -62135869600 ≤ t := by omega
        have ht2 : t ≤ 253402487200 := by omega
        rw [w64_id (n := t / 86400 * 86400) (by omega) (by omega), w64_id (n := t - t / 86400 * 86400) (by omega) (by omega)]
      by_cases hd : -719162 ≤ (s + 60 * z) / 86400 ∧ (s + 60 * z) / 86400 ≤ 2932896
      · left
        have hf : (decide (-719162 ≤ (s + 60 * z) / 86400) && decide ((s + 60 * z) / 86400 ≤ 2932896)) = true := by simpa using hd
        rw [hf] at e30 e37
        obtain ⟨y, m, d, h1, h2, h3⟩ := F10_eq hd.1 hd.2
        exact ⟨_, _, y, m, d, e30, e37, h1, h3, F11_eq h1 h2⟩
      · right
        have hf : (decide (-719162 ≤ (s + 60 * z) / 86400) && decide ((s + 60 * z) / 86400 ≤ 2932896)) = false := by
          rw [Bool.and_eq_false_iff]
          by_cases h : -719162 ≤ (s + 60 * z) / 86400
          · right; simp; omega
          · left; simp; omega
        rw [hf] at e30 e37
        exact ⟨_, _, _, _, e30, e37⟩

theorem weekText {k : Int} (h : 0 ≤ k) (h2 : k ≤ 6) : ∃ l, List.getD ([([77, 111, 110]:List UInt8), ([84, 117, 101]:List UInt8), ([87, 101, 100]:List UInt8), ([84, 104, 117]:List UInt8), ([70, 114, 105]:List UInt8), ([83, 97, 116]:List UInt8), ([83, 117, 110]:List UInt8)]:List (List UInt8)) (Int.toNat k) ([] : List UInt8) = l ∧ l.length = 3 ∧ (decide ((0 : Int) ≤ k) && decide (k < ((List.length ([([77, 111, 110]:List UInt8), ([84, 117, 101]:List UInt8), ([87, 101, 100]:List UInt8), ([84, 104, 117]:List UInt8), ([70, 114, 105]:List UInt8), ([83, 97, 116]:List UInt8), ([83, 117, 110]:List UInt8)]:List (List UInt8)) : Nat) : Int))) = true := by
  have hk : k = 0 ∨ k = 1 ∨ k = 2 ∨ k = 3 ∨ k = 4 ∨ k = 5 ∨ k = 6 := by omega
  rcases hk with rfl | rfl | rfl | rfl | rfl | rfl | rfl <;> exact ⟨_, rfl, rfl, rfl⟩

theorem monthText {k : Int} (h : 0 ≤ k) (h2 : k ≤ 11) : ∃ l, List.getD ([([74, 97, 110]:List UInt8), ([70, 101, 98]:List UInt8), ([77, 97, 114]:List UInt8), ([65, 112, 114]:List UInt8), ([77, 97, 121]:List UInt8), ([74, 117, 110]:List UInt8), ([74, 117, 108]:List UInt8), ([65, 117, 103]:List UInt8), ([83, 101, 112]:List UInt8), ([79, 99, 116]:List UInt8), ([78, 111, 118]:List UInt8), ([68, 101, 99]:List UInt8)]:List (List UInt8)) (Int.toNat k) ([] : List UInt8) = l ∧ l.length = 3 ∧ (decide ((0 : Int) ≤ k) && decide (k < ((List.length ([([74, 97, 110]:List UInt8), ([70, 101, 98]:List UInt8), ([77, 97, 114]:List UInt8), ([65, 112, 114]:List UInt8), ([77, 97, 121]:List UInt8), ([74, 117, 110]:List UInt8), ([74, 117, 108]:List UInt8), ([65, 117, 103]:List UInt8), ([83, 101, 112]:List UInt8), ([79, 99, 116]:List UInt8), ([78, 111, 118]:List UInt8), ([68, 101, 99]:List UInt8)]:List (List UInt8)) : Nat) : Int))) = true := by
  have hk : k = 0 ∨ k = 1 ∨ k = 2 ∨ k = 3 ∨ k = 4 ∨ k = 5 ∨ k = 6 ∨ k = 7 ∨ k = 8 ∨ k = 9 ∨ k = 10 ∨ k = 11 := by omega
  rcases hk with rfl | rfl | rfl | rfl | rfl | rfl | rfl | rfl | rfl | rfl | rfl | rfl <;> exact ⟨_, rfl, rfl, rfl⟩

end Go.Dt

namespace Go.Dt
open Go Go.Ev

theorem print_eq (s z : Int) : ∃ l e, F17 (((s, z, ()), ()), ()) = some ((l, e, ()), ()) ∧ F18 (((s, z, ()), ()), ()) = some ((l, e, ()), ()) := by
  rcases there s z with ⟨day, rest, y, m, d, e30, e37, ⟨a1, a2, a3, a4, a5, a6⟩, e10, e11⟩ | ⟨a, b, c, d, e30, e37⟩
  · have hl31 := long_le y m
    obtain ⟨k, k1, k2, k3, k4, _⟩ := week_eq day
    obtain ⟨td, l2, t1, t2, t3, t4, t5, t6⟩ := dayText a5 (show d ≤ 31 by omega)
    obtain ⟨yl, y1, y2, y3⟩ := digits4 y
    obtain ⟨cl, c1, c2, c3⟩ := clock rest
    obtain ⟨zl, z1, z2, z3⟩ := zone z
    obtain ⟨W, hW, hWl, hWc⟩ := weekText k3 k4
    obtain ⟨M, hM, hMl, hMc⟩ := monthText (k := m - 1) (by omega) (by omega)
    have hm1 : w64 (m - 1) = m - 1 := w64_id (by omega) (by omega)
    refine ⟨W ++ [44, 32] ++ td ++ [32] ++ M ++ [32] ++ yl ++ [32] ++ cl ++ [32] ++ zl, 0, ?_, ?_⟩
    · simp only [F17, e30, Option.bind_some, Bool.not_true, cond_false, e10, t1, F32, k1, hWc, hW, F33, hm1, hMc, hM, y1, c1, z1, cond_true]
      simp (disch := (simp only [List.length_append, List.length_cons, List.length_nil]; omega)) only [fits_true, cond_true]
    · have key : (Option.bind (cond (decide (d < 10)) (Option.bind (cond (decide ((1 : Int) ≤ ((List.length l2 : Nat) : Int)) && decide (((List.length l2 : Nat) : Int) ≤ ((List.length l2 : Nat) : Int)))
          (some (((), day, rest, (), List.take (Int.toNat ((List.length l2 : Nat) : Int) - 1) (List.drop 1 l2), ()), ((s, z, ()), (y, m, d, ()), ()))) none) fun p4 => some (((), p4.1.2.1, p4.1.2.2.1, (), p4.1.2.2.2.2.1, ()), ((p4.2.1.1, p4.2.1.2.1, ()), (p4.2.2.1.1, p4.2.2.1.2.1, p4.2.2.1.2.2.1, ()), ())))
          (some (((), day, rest, (), l2, ()), ((s, z, ()), (y, m, d, ()), ()))) : Option ((Unit × Int × Int × Unit × List UInt8 × Unit) × (Int × Int × Unit) × (Int × Int × Int × Unit) × Unit)) some) = some (((), day, rest, (), td, ()), ((s, z, ()), (y, m, d, ()), ())) := by
        rw [t4]
        cases hd : decide (d < 10) with
        | true => rw [t6, hd]; rfl
        | false => rw [t6, hd]; rfl
      rw [Option.bind_fun_some] at key
      simp only [F18, e37, Option.bind_some, Bool.not_true, cond_false, e11, t3]
      rw [key]
      simp only [Option.bind_some, F39, k2, hWc, hW, F40, hm1, hMc, hM, y2, c2, z2, cond_true]
      simp (disch := (simp only [List.length_append, List.length_cons, List.length_nil]; omega)) only [fits_true, cond_true]
  · exact ⟨[], 2, by simp only [F17, e30, Option.bind_some, Bool.not_false, cond_true], by simp only [F18, e37, Option.bind_some, Bool.not_false, cond_true]⟩

end Go.Dt

namespace Go.Dt
open Go Go.Ev

theorem short_eq (s z : Int) : ∃ l e, F19 (((s, z, ()), ()), ()) = some ((l, e, ()), ()) ∧ F20 (((s, z, ()), ()), ()) = some ((l, e, ()), ()) := by
  rcases there s z with ⟨day, rest, y, m, d, e30, e37, ⟨a1, a2, a3, a4, a5, a6⟩, e10, e11⟩ | ⟨a, b, c, d, e30, e37⟩
  · have hl31 := long_le y m
    obtain ⟨l2, t2, t3, t4⟩ := digits2 d
    obtain ⟨yl, y1, y2, y3⟩ := digits4 y
    obtain ⟨cl, c1, c2, c3⟩ := clock rest
    obtain ⟨zl, z1, z2, z3⟩ := zone z
    obtain ⟨M, hM, hMl, hMc⟩ := monthText (k := m - 1) (by omega) (by omega)
    have hm1 : w64 (m - 1) = m - 1 := w64_id (by omega) (by omega)
    have key : ∃ dl, dl.length ≤ 3 ∧ (Option.bind (cond (decide (d < 10)) (Option.bind (cond (decide ((1 : Int) ≤ ((List.length l2 : Nat) : Int)) && decide (((List.length l2 : Nat) : Int) ≤ ((List.length l2 : Nat) : Int)))
          (cond (fits (List.length ([32] : List UInt8) + List.length (List.take (Int.toNat ((List.length l2 : Nat) : Int) - 1) (List.drop 1 l2)))) (some (((), rest, (), ([32] : List UInt8) ++ List.take (Int.toNat ((List.length l2 : Nat) : Int) - 1) (List.drop 1 l2), ()), ((s, z, ()), (y, m, d, ()), ()))) none) none)
            fun p4 => some (((), p4.1.2.1, (), p4.1.2.2.2.1, ()), ((p4.2.1.1, p4.2.1.2.1, ()), (p4.2.2.1.1, p4.2.2.1.2.1, p4.2.2.1.2.2.1, ()), ())))
          (some (((), rest, (), l2, ()), ((s, z, ()), (y, m, d, ()), ()))) : Option ((Unit × Int × Unit × List UInt8 × Unit) × (Int × Int × Unit) × (Int × Int × Int × Unit) × Unit)) some) = some (((), rest, (), dl, ()), ((s, z, ()), (y, m, d, ()), ())) := by
      rw [t4]
      cases hd : decide (d < 10) with
      | true =>
        refine ⟨[32] ++ List.take 1 (List.drop 1 l2), ?_, ?_⟩
        · simp only [List.length_append, List.length_cons, List.length_nil, List.length_take, List.length_drop, t4]; omega
        · rw [fits_true (by simp only [List.length_cons, List.length_nil, List.length_take, List.length_drop, t4]; omega)]
          rfl
      | false => exact ⟨l2, by omega, rfl⟩
    obtain ⟨dl, hdl, key⟩ := key
    rw [Option.bind_fun_some] at key
    refine ⟨dl ++ [45] ++ M ++ [45] ++ yl ++ [32] ++ cl ++ [32] ++ zl, 0, ?_, ?_⟩
    · simp only [F19, e30, Option.bind_some, Bool.not_true, cond_false, e10, t2]
      rw [key]
      simp only [Option.bind_some, F33, hm1, hMc, hM, y1, c1, z1, cond_true]
      simp (disch := (simp only [List.length_append, List.length_cons, List.length_nil]; omega)) only [fits_true, cond_true]
    · simp only [F20, e37, Option.bind_some, Bool.not_true, cond_false, e11, t3]
      rw [key]
      simp only [Option.bind_some, F40, hm1, hMc, hM, y2, c2, z2, cond_true]
      simp (disch := (simp only [List.length_append, List.length_cons, List.length_nil]; omega)) only [fits_true, cond_true]
  · exact ⟨[], 2, by simp only [F19, e30, Option.bind_some, Bool.not_false, cond_true], by simp only [F20, e37, Option.bind_some, Bool.not_false, cond_true]⟩

theorem here_eq (s z : Int) : ∃ y m d e, F21 (((s, z, ()), ()), ()) = some (((y, m, d, ()), e, ()), ()) ∧ F22 (((s, z, ()), ()), ()) = some (((y, m, d, ()), e, ()), ()) := by
  rcases there s z with ⟨day, rest, y, m, d, e30, e37, _, e10, e11⟩ | ⟨a, b, c, d, e30, e37⟩
  · exact ⟨y, m, d, 0, by simp only [F21, e30, Option.bind_some, Bool.not_true, cond_false, e10], by simp only [F22, e37, Option.bind_some, Bool.not_true, cond_false, e11]⟩
  · exact ⟨0, 0, 0, 2, by simp only [F21, e30, Option.bind_some, Bool.not_false, cond_true], by simp only [F22, e37, Option.bind_some, Bool.not_false, cond_true]⟩

/-- DatePrints is true. -/
theorem law6 (s z : Int) : F6 (((s, z, ()), ()), ()) = some (true, ()) := by
  obtain ⟨l, e, h1, h2⟩ := print_eq s z
  obtain ⟨l', e', h3, h4⟩ := short_eq s z
  obtain ⟨y, m, d, e'', h5, h6⟩ := here_eq s z
  simp only [F6, h1, h2, h3, h4, h5, h6, live12, Option.bind_some, decide_true, Bool.and_self]

end Go.Dt
