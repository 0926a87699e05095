/- Prints. -/
import Derived.Test.YtbaocindligcmaaDA
namespace Go.Dt
open Go Go.Ev

theorem print_eq (s z : Int) : ∃ l e, F17 (((s, z, ()), ()), ()) = some ((l, e, ()), ()) ∧ F18 (((s, z, ()), ()), ()) = some ((l, e, ()), ()) := by
  rcases there s z with ⟨day, rest, y, m, d, e30, e37, ⟨a1, a2, a3, a4, a5, a6⟩, e10, e11⟩ | ⟨a, b, c, d, e30, e37⟩
  · have hl31 := long_le y m
    obtain ⟨k, k1, k2, k3, k4, _⟩ := week_eq day
    obtain ⟨td, l2, t1, t2, t3, t4, t5, t6⟩ := dayText a5 (show d ≤ 31 by omega)
    obtain ⟨yl, y1, y2, y3⟩ := digits4 y
    obtain ⟨cl, c1, c2, c3⟩ := clock rest
    obtain ⟨zl, z1, z2, z3⟩ := zone z
    obtain ⟨W, hW, hWl, hWc⟩ := weekText k3 k4
    obtain ⟨M, hM, hMl, hMc⟩ := monthText (k := m - 1) (by omega) (by omega)
    have hm1 : w64 (m - 1) = m - 1 := w64_id (by omega) (by omega)
    refine ⟨W ++ [44, 32] ++ td ++ [32] ++ M ++ [32] ++ yl ++ [32] ++ cl ++ [32] ++ zl, 0, ?_, ?_⟩
    · simp only [F17, e30, Option.bind_some, Bool.not_true, cond_false, e10, t1, F32, k1, hWc, hW, F33, hm1, hMc, hM, y1, c1, z1, cond_true]
      simp (disch := (simp only [List.length_append, List.length_cons, List.length_nil]; omega)) only [fits_true, cond_true]
    · have key : (Option.bind (cond (decide (d < 10)) (Option.bind (cond (decide ((1 : Int) ≤ ((List.length l2 : Nat) : Int)) && decide (((List.length l2 : Nat) : Int) ≤ ((List.length l2 : Nat) : Int)))
          (some (((), day, rest, (), List.take (Int.toNat ((List.length l2 : Nat) : Int) - 1) (List.drop 1 l2), ()), ((s, z, ()), (y, m, d, ()), ()))) none) fun p4 => some (((), p4.1.2.1, p4.1.2.2.1, (), p4.1.2.2.2.2.1, ()), ((p4.2.1.1, p4.2.1.2.1, ()), (p4.2.2.1.1, p4.2.2.1.2.1, p4.2.2.1.2.2.1, ()), ())))
          (some (((), day, rest, (), l2, ()), ((s, z, ()), (y, m, d, ()), ()))) : Option ((Unit × Int × Int × Unit × List UInt8 × Unit) × (Int × Int × Unit) × (Int × Int × Int × Unit) × Unit)) some) = some (((), day, rest, (), td, ()), ((s, z, ()), (y, m, d, ()), ())) := by
        rw [t4]
        cases hd : decide (d < 10) with
        | true => rw [t6, hd]; rfl
        | false => rw [t6, hd]; rfl
      rw [Option.bind_fun_some] at key
      simp only [F18, e37, Option.bind_some, Bool.not_true, cond_false, e11, t3]
      rw [key]
      simp only [Option.bind_some, F39, k2, hWc, hW, F40, hm1, hMc, hM, y2, c2, z2, cond_true]
      simp (disch := (simp only [List.length_append, List.length_cons, List.length_nil]; omega)) only [fits_true, cond_true]
  · exact ⟨[], 2, by simp only [F17, e30, Option.bind_some, Bool.not_false, cond_true], by simp only [F18, e37, Option.bind_some, Bool.not_false, cond_true]⟩

end Go.Dt
