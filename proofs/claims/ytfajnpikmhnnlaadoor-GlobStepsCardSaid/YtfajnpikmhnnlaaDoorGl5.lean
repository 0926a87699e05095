/- The law of steps. -/
import Derived.Test.YtfajnpikmhnnlaaDoorGl4
namespace Go.Gl
open Go Go.Ev
set_option maxRecDepth 100000

theorem F13_eq {l : List (List UInt8)} (hl : l.length ≤ 100000) : F13 ((l, l, ()), ()) = some (true, ()) := by
  obtain ⟨r, e1, e2⟩ := loop_ind (f := B13_0) (fun p => ∃ i : Nat, i ≤ l.length ∧ p = ((l, l, (i : Int), ()), ())) (fun p => ((l.length : Int) - p.1.2.2.1).toNat) (fun r => r = Sum.inl ((), ()))
    (fun p ⟨i, hi, hp⟩ => by
      subst hp
      by_cases hlt : i < l.length
      · left
        have c1 : decide ((i : Int) < ((l.length : Nat) : Int)) = true := by simp; omega
        have c2 : decide ((0 : Int) ≤ (i : Int)) = true := by simp
        refine ⟨((l, l, ((i + 1 : Nat) : Int), ()), ()), ?_, ⟨i + 1, by omega, rfl⟩, ?_⟩
        · simp only [B13_0, c1, c2, Bool.and_self, cond_true, decide_true, Bool.not_true, cond_false]
          rw [w64_id (n := (i : Int) + 1) (by omega) (by omega)]
          rfl
        · simp only; omega
      · right
        have c1 : decide ((i : Int) < ((l.length : Nat) : Int)) = false := by simp; omega
        exact ⟨_, by simp only [B13_0, c1, cond_false] <;> rfl, rfl⟩)
    (p := ((l, l, 0, ()), ())) ⟨0, Nat.zero_le _, rfl⟩ (by unfold FUEL; simp only; omega)
  subst e2
  have e1' : L13_0 ((l, l, 0, ()), ()) = some (Sum.inl ((), ())) := e1
  simp only [F13, decide_true, Bool.not_true, cond_false]
  rw [e1']
  rfl

theorem parts_len : ∀ (s cur : List UInt8), (parts cur s).length ≤ s.length + 1
  | [], _ => by simp [parts]
  | b :: s, cur => by
    simp only [parts]
    split
    · have := parts_len s []
      simp; omega
    · have := parts_len s (cur ++ [b])
      simp; omega

/-- GlobSteps is true. -/
theorem law5 (n r : List UInt8) : F5 ((n, r, ()), ()) = some (true, ()) := by
  obtain ⟨n', h1, hn⟩ := F8_eq n
  obtain ⟨r', h2, hr⟩ := F8_eq r
  have steps : ∃ l, l.length ≤ 100000 ∧ F14 ((n', ()), ()) = some (l, ()) ∧ F15 ((n', ()), ()) = some ((), (l, ())) := by
    by_cases h0 : n' = []
    · subst h0
      exact ⟨[], by simp, rfl, rfl⟩
    · have hd : decide (n' = []) = false := by simpa using h0
      refine ⟨parts [] n', by have := parts_len n' []; omega, ?_, F15_eq (by omega) h0⟩
      simp only [F14, hd, cond_false, F29, F41_eq (show n'.length ≤ 1000 by omega), Option.bind_some]
  obtain ⟨l, hl, e1, e2⟩ := steps
  simp only [F5, h1, h2, live9, e1, e2, F13_eq hl, F16_eq (show r'.length ≤ 50000 by omega), F17_eq, Option.bind_some, cond_true, beq_self_eq_true]

end Go.Gl
