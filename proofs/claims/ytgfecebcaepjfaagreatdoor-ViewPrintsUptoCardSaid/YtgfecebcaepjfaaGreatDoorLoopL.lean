/- Loops that go through a list. -/
import Derived.Test.YtgfecebcaepjfaaGreatDoorEvV
namespace Go.Ev
open Go

/-- A walk through a list, that may end ahead of its end. -/
def foldS {α β τ : Type} (step : α → β → β ⊕ τ) (fin : β → τ) : β → List α → τ
  | b, [] => fin b
  | b, a :: t => match step a b with
    | .inl c => foldS step fin c t
    | .inr r => r

theorem walk_iter {α β σ τ : Type} {f : σ → Option (σ ⊕ τ)} {mk : β → Nat → σ} {ls : List α} {step : α → β → β ⊕ τ} {fin : β → τ} {I : β → Nat → Prop}
    (h1 : ∀ b i a, I b i → i < ls.length → (∀ d, ls.getD i d = a) → (∃ c, step a b = .inl c ∧ I c (i + 1) ∧ f (mk b i) = some (.inl (mk c (i + 1)))) ∨ (∃ r, step a b = .inr r ∧ f (mk b i) = some (.inr r)))
    (h2 : ∀ b, I b ls.length → f (mk b ls.length) = some (.inr (fin b))) : ∀ (n : Nat) (b : β) (i : Nat) (t : List α), I b i → i ≤ ls.length → ls.drop i = t → t.length < n → iter f n (mk b i) = some (foldS step fin b t)
  | 0, _, _, _, _, _, _, h => absurd h (Nat.not_lt_zero _)
  | n + 1, b, i, [], hI, hi, ht, _ => by
    have hl : ls.length ≤ i := List.drop_eq_nil_iff.mp ht
    simp only [iter, foldS]
    obtain rfl : i = ls.length := by omega
    rw [h2 b hI]
  | n + 1, b, i, a :: t, hI, _, ht, hn => by
    have hl : i < ls.length := by
      rcases Nat.lt_or_ge i ls.length with h | h
      · exact h
      · rw [List.drop_eq_nil_iff.mpr h] at ht; cases ht
    have e := List.drop_eq_getElem_cons hl
    rw [ht] at e
    obtain ⟨e1, e2⟩ := List.cons.inj e
    simp only [iter, foldS]
    rcases h1 b i a hI hl (fun d => by rw [e1, List.getD_eq_getElem?_getD, List.getElem?_eq_getElem hl]; rfl) with ⟨c, q1, q2, q3⟩ | ⟨r, q1, q3⟩
    · rw [q3, q1]
      exact walk_iter h1 h2 n c (i + 1) t q2 hl e2.symm (by simp only [List.length_cons] at hn; omega)
    · rw [q3, q1]

/-- A loop through a list, with an invariant. -/
theorem walk_listI {α β σ τ : Type} {f : σ → Option (σ ⊕ τ)} (mk : β → Nat → σ) (ls : List α) (step : α → β → β ⊕ τ) (fin : β → τ) (I : β → Nat → Prop)
    (h1 : ∀ b i a, I b i → i < ls.length → (∀ d, ls.getD i d = a) → (∃ c, step a b = .inl c ∧ I c (i + 1) ∧ f (mk b i) = some (.inl (mk c (i + 1)))) ∨ (∃ r, step a b = .inr r ∧ f (mk b i) = some (.inr r)))
    (h2 : ∀ b, I b ls.length → f (mk b ls.length) = some (.inr (fin b))) (hn : ls.length < FUEL) {b : β} (hI : I b 0) : loopOf f (mk b 0) = some (foldS step fin b ls) :=
  walk_iter h1 h2 FUEL b 0 ls hI (Nat.zero_le _) rfl hn

/-- A loop through a list. -/
theorem walk_list {α β σ τ : Type} {f : σ → Option (σ ⊕ τ)} (mk : β → Nat → σ) (ls : List α) (step : α → β → β ⊕ τ) (fin : β → τ)
    (h1 : ∀ b i a, i < ls.length → (∀ d, ls.getD i d = a) → f (mk b i) = some (match step a b with | .inl c => .inl (mk c (i + 1)) | .inr r => .inr r))
    (h2 : ∀ b, f (mk b ls.length) = some (.inr (fin b))) (hn : ls.length < FUEL) {b : β} : loopOf f (mk b 0) = some (foldS step fin b ls) :=
  walk_listI mk ls step fin (fun _ _ => True) (fun b i a _ hi ha => by
    have h := h1 b i a hi ha
    cases e : step a b with
    | inl c => rw [e] at h; exact .inl ⟨c, rfl, trivial, h⟩
    | inr r => rw [e] at h; exact .inr ⟨r, rfl, h⟩) (fun b _ => h2 b) hn trivial

theorem w64_id {n : Int} (h1 : -9223372036854775808 ≤ n) (h2 : n ≤ 9223372036854775807) : w64 n = n := by
  unfold w64 IntKind.wrap
  simp only [IntKind.bits, IntKind.signed]
  by_cases h : n % 2 ^ 64 ≥ 2 ^ 63
  · simp; omega
  · simp; omega

theorem w64_nat {n : Nat} (h : n < 9223372036854775807) : w64 ((n : Int) + 1) = ((n + 1 : Nat) : Int) := by
  rw [show ((n + 1 : Nat) : Int) = (n : Int) + 1 from by omega]
  exact w64_id (by omega) (by omega)

theorem nat_lt {i n : Nat} : decide ((i : Int) < (n : Int)) = decide (i < n) := by simp
theorem nat_nn {i : Nat} : decide ((0 : Int) ≤ (i : Int)) = true := by simp

end Go.Ev
