/- Laws of loops. -/
import Derived.Test.YtgfecebcaepjfaaGreatDoorEvU
namespace Go.Ev
open Go

theorem iter_ind {σ τ : Type} {f : σ → Option (σ ⊕ τ)} {I : σ → Prop} {μ : σ → Nat} {Q : τ → Prop}
    (step : ∀ p, I p → (∃ q, f p = some (.inl q) ∧ I q ∧ μ q < μ p) ∨ ∃ r, f p = some (.inr r) ∧ Q r) : ∀ (n : Nat) (p : σ), I p → μ p < n → ∃ r, iter f n p = some r ∧ Q r
  | 0, _, _, h => absurd h (Nat.not_lt_zero _)
  | n + 1, p, hI, h => by
    simp only [iter]
    rcases step p hI with ⟨q, h1, h2, h3⟩ | ⟨r, h1, h2⟩
    · rw [h1]
      exact iter_ind step n q h2 (by omega)
    · rw [h1]
      exact ⟨r, rfl, h2⟩

/-- A loop with an invariant and a measure. -/
theorem loop_ind {σ τ : Type} {f : σ → Option (σ ⊕ τ)} (I : σ → Prop) (μ : σ → Nat) (Q : τ → Prop)
    (step : ∀ p, I p → (∃ q, f p = some (.inl q) ∧ I q ∧ μ q < μ p) ∨ ∃ r, f p = some (.inr r) ∧ Q r) {p : σ} (hI : I p) (hμ : μ p < FUEL) : ∃ r, loopOf f p = some r ∧ Q r :=
  iter_ind step FUEL p hI hμ

theorem FUEL_big : (9223372036854775807 : Nat) / 2 < FUEL := by unfold FUEL; omega

end Go.Ev
