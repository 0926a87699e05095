/- Short prints; the law of prints. -/
import Derived.Test.YtbaocindligcmaaDB
namespace Go.Dt
open Go Go.Ev

theorem short_eq (s z : Int) : ∃ l e, F19 (((s, z, ()), ()), ()) = some ((l, e, ()), ()) ∧ F20 (((s, z, ()), ()), ()) = some ((l, e, ()), ()) := by
  rcases there s z with ⟨day, rest, y, m, d, e30, e37, ⟨a1, a2, a3, a4, a5, a6⟩, e10, e11⟩ | ⟨a, b, c, d, e30, e37⟩
  · have hl31 := long_le y m
    obtain ⟨l2, t2, t3, t4⟩ := digits2 d
    obtain ⟨yl, y1, y2, y3⟩ := digits4 y
    obtain ⟨cl, c1, c2, c3⟩ := clock rest
    obtain ⟨zl, z1, z2, z3⟩ := zone z
    obtain ⟨M, hM, hMl, hMc⟩ := monthText (k := m - 1) (by omega) (by omega)
    have hm1 : w64 (m - 1) = m - 1 := w64_id (by omega) (by omega)
    have key : ∃ dl, dl.length ≤ 3 ∧ (Option.bind (cond (decide (d < 10)) (Option.bind (cond (decide ((1 : Int) ≤ ((List.length l2 : Nat) : Int)) && decide (((List.length l2 : Nat) : Int) ≤ ((List.length l2 : Nat) : Int)))
          (cond (fits (List.length ([32] : List UInt8) + List.length (List.take (Int.toNat ((List.length l2 : Nat) : Int) - 1) (List.drop 1 l2)))) (some (((), rest, (), ([32] : List UInt8) ++ List.take (Int.toNat ((List.length l2 : Nat) : Int) - 1) (List.drop 1 l2), ()), ((s, z, ()), (y, m, d, ()), ()))) none) none)
            fun p4 => some (((), p4.1.2.1, (), p4.1.2.2.2.1, ()), ((p4.2.1.1, p4.2.1.2.1, ()), (p4.2.2.1.1, p4.2.2.1.2.1, p4.2.2.1.2.2.1, ()), ())))
          (some (((), rest, (), l2, ()), ((s, z, ()), (y, m, d, ()), ()))) : Option ((Unit × Int × Unit × List UInt8 × Unit) × (Int × Int × Unit) × (Int × Int × Int × Unit) × Unit)) some) = some (((), rest, (), dl, ()), ((s, z, ()), (y, m, d, ()), ())) := by
      rw [t4]
      cases hd : decide (d < 10) with
      | true =>
        refine ⟨[32] ++ List.take 1 (List.drop 1 l2), ?_, ?_⟩
        · simp only [List.length_append, List.length_cons, List.length_nil, List.length_take, List.length_drop, t4]; omega
        · rw [fits_true (by simp only [List.length_cons, List.length_nil, List.length_take, List.length_drop, t4]; omega)]
          rfl
      | false => exact ⟨l2, by omega, rfl⟩
    obtain ⟨dl, hdl, key⟩ := key
    rw [Option.bind_fun_some] at key
    refine ⟨dl ++ [45] ++ M ++ [45] ++ yl ++ [32] ++ cl ++ [32] ++ zl, 0, ?_, ?_⟩
    · simp only [F19, e30, Option.bind_some, Bool.not_true, cond_false, e10, t2]
      rw [key]
      simp only [Option.bind_some, F33, hm1, hMc, hM, y1, c1, z1, cond_true]
      simp (disch := (simp only [List.length_append, List.length_cons, List.length_nil]; omega)) only [fits_true, cond_true]
    · simp only [F20, e37, Option.bind_some, Bool.not_true, cond_false, e11, t3]
      rw [key]
      simp only [Option.bind_some, F40, hm1, hMc, hM, y2, c2, z2, cond_true]
      simp (disch := (simp only [List.length_append, List.length_cons, List.length_nil]; omega)) only [fits_true, cond_true]
  · exact ⟨[], 2, by simp only [F19, e30, Option.bind_some, Bool.not_false, cond_true], by simp only [F20, e37, Option.bind_some, Bool.not_false, cond_true]⟩

theorem here_eq (s z : Int) : ∃ y m d e, F21 (((s, z, ()), ()), ()) = some (((y, m, d, ()), e, ()), ()) ∧ F22 (((s, z, ()), ()), ()) = some (((y, m, d, ()), e, ()), ()) := by
  rcases there s z with ⟨day, rest, y, m, d, e30, e37, _, e10, e11⟩ | ⟨a, b, c, d, e30, e37⟩
  · exact ⟨y, m, d, 0, by simp only [F21, e30, Option.bind_some, Bool.not_true, cond_false, e10], by simp only [F22, e37, Option.bind_some, Bool.not_true, cond_false, e11]⟩
  · exact ⟨0, 0, 0, 2, by simp only [F21, e30, Option.bind_some, Bool.not_false, cond_true], by simp only [F22, e37, Option.bind_some, Bool.not_false, cond_true]⟩

/-- DatePrints is true. -/
theorem law6 (s z : Int) : F6 (((s, z, ()), ()), ()) = some (true, ()) := by
  obtain ⟨l, e, h1, h2⟩ := print_eq s z
  obtain ⟨l', e', h3, h4⟩ := short_eq s z
  obtain ⟨y, m, d, e'', h5, h6⟩ := here_eq s z
  simp only [F6, h1, h2, h3, h4, h5, h6, live12, Option.bind_some, decide_true, Bool.and_self]

end Go.Dt
