/- Digits. -/
import Derived.Test.YtbaocindligcmaaD8
namespace Go.Dt
open Go Go.Ev
set_option maxRecDepth 100000

theorem of_len {o : Option (List UInt8 × Unit)} {n : Nat} (h : o.map (fun r => r.1.length) = some n) : ∃ l, o = some (l, ()) ∧ l.length = n := by
  cases o with
  | none => cases h
  | some x =>
    obtain ⟨l, u⟩ := x
    simp only [Option.map_some, Option.some.injEq] at h
    exact ⟨l, rfl, h⟩

theorem digits4 (v : Int) : ∃ l, F34 ((v, 4, ()), ()) = some (l, ()) ∧ F38 ((v, 4, ()), ()) = some (l, ()) ∧ l.length = 4 := by
  have h1 : F34 ((v, 4, ()), ()) = F38 ((v, 4, ()), ()) := by kernel_rfl
  have h2 : (F34 ((v, 4, ()), ())).map (fun r => r.1.length) = some 4 := by kernel_rfl
  obtain ⟨l, h3, h4⟩ := of_len h2
  exact ⟨l, h3, by rw [← h1, h3], h4⟩

theorem digits2 (v : Int) : ∃ l, F34 ((v, 2, ()), ()) = some (l, ()) ∧ F38 ((v, 2, ()), ()) = some (l, ()) ∧ l.length = 2 := by
  have h1 : F34 ((v, 2, ()), ()) = F38 ((v, 2, ()), ()) := by kernel_rfl
  have h2 : (F34 ((v, 2, ()), ())).map (fun r => r.1.length) = some 2 := by kernel_rfl
  obtain ⟨l, h3, h4⟩ := of_len h2
  exact ⟨l, h3, by rw [← h1, h3], h4⟩

theorem clock (v : Int) : ∃ l, F35 ((v, ()), ()) = some (l, ()) ∧ F41 ((v, ()), ()) = some (l, ()) ∧ l.length = 8 := by
  have h1 : F35 ((v, ()), ()) = F41 ((v, ()), ()) := by kernel_rfl
  have h2 : (F35 ((v, ()), ())).map (fun r => r.1.length) = some 8 := by kernel_rfl
  obtain ⟨l, h3, h4⟩ := of_len h2
  exact ⟨l, h3, by rw [← h1, h3], h4⟩

theorem zone (v : Int) : ∃ l, F36 ((v, ()), ()) = some (l, ()) ∧ F42 ((v, ()), ()) = some (l, ()) ∧ l.length = 5 := by
  have h1 : F36 ((v, ()), ()) = F42 ((v, ()), ()) := by
    simp only [F36, F42]
    cases decide (v < 0)
    · kernel_rfl
    · kernel_rfl
  have h2 : (F36 ((v, ()), ())).map (fun r => r.1.length) = some 5 := by
    simp only [F36]
    cases decide (v < 0)
    · kernel_rfl
    · kernel_rfl
  obtain ⟨l, h3, h4⟩ := of_len h2
  exact ⟨l, h3, by rw [← h1, h3], h4⟩

/-- The day of a month, in one or two letters. -/
def ckDay (d : Int) : Bool :=
  match F31 ((d, ()), ()), F38 ((d, 2, ()), ()) with
  | some ((td, e, _), _), some (l2, _) => decide (e = 0) && decide (td.length ≤ 2) && decide (td = cond (decide (d < 10)) (List.take 1 (List.drop 1 l2)) l2)
  | _, _ => false

theorem ckDays : ((List.range 31).all fun n => ckDay ((n : Int) + 1)) = true := by kernel_rfl

theorem ckDay_all {d : Int} (h : 1 ≤ d) (h2 : d ≤ 31) : ckDay d = true := by
  have h3 := List.all_eq_true.1 ckDays (d - 1).toNat (List.mem_range.2 (by omega))
  rwa [show ((d - 1).toNat : Int) + 1 = d by omega] at h3

theorem dayText {d : Int} (h : 1 ≤ d) (h2 : d ≤ 31) : ∃ td l2, F31 ((d, ()), ()) = some ((td, 0, ()), ()) ∧ F34 ((d, 2, ()), ()) = some (l2, ()) ∧ F38 ((d, 2, ()), ()) = some (l2, ()) ∧ l2.length = 2 ∧ td.length ≤ 2 ∧ td = cond (decide (d < 10)) (List.take 1 (List.drop 1 l2)) l2 := by
  obtain ⟨l2, g1, g2, g3⟩ := digits2 d
  have hc := ckDay_all h h2
  unfold ckDay at hc
  rw [g2] at hc
  cases h31 : F31 ((d, ()), ()) with
  | none => simp [h31] at hc
  | some x =>
    obtain ⟨⟨td, e, u⟩, u'⟩ := x
    simp only [h31, Bool.and_eq_true, decide_eq_true_eq] at hc
    obtain ⟨⟨h4, h5⟩, h6⟩ := hc
    subst h4
    exact ⟨td, l2, rfl, g1, g2, g3, h5, h6⟩

theorem fits_true {n : Nat} (h : n ≤ 1000) : fits n = true := by
  unfold fits
  simp
  omega

end Go.Dt
