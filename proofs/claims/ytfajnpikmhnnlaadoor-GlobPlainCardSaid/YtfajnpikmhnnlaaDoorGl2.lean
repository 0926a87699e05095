/- Names under names. -/
import Derived.Test.YtfajnpikmhnnlaaDoorGl1
namespace Go.Gl
open Go Go.Ev
set_option maxRecDepth 100000

theorem fits_true {n : Nat} (h : n ≤ 100000) : fits n = true := by
  unfold fits
  simp
  omega

/-- a name lies under another one -/
def under (n r : List UInt8) : Bool := !decide (r = []) && decide (List.take (r.length + 1) n = r ++ [47])

theorem under_iff {n r : List UInt8} : under n r = true ↔ r ≠ [] ∧ ∃ s, n = r ++ 47 :: s := by
  unfold under
  simp only [Bool.and_eq_true, Bool.not_eq_true', decide_eq_false_iff_not, decide_eq_true_eq]
  refine and_congr_right fun _ => ⟨fun h => ⟨n.drop (r.length + 1), ?_⟩, fun ⟨s, h⟩ => ?_⟩
  · have := List.take_append_drop (r.length + 1) n
    rw [h] at this
    rw [← this]
    simp
  · subst h
    rw [show r ++ 47 :: s = (r ++ [47]) ++ s by simp, List.take_append_of_le_length (by simp), List.take_of_length_le (by simp)]

theorem F16_eq {n r : List UInt8} (hr : r.length ≤ 50000) : F16 ((n, r, ()), ()) = some (under n r, ()) := by
  by_cases h0 : r = []
  · subst h0
    rfl
  · have hd : decide (r = []) = false := by simpa using h0
    have hf : fits (List.length r + List.length ([47] : List UInt8)) = true := fits_true (by simp; omega)
    simp only [F16, hd, hf, Bool.true_or, cond_true, Bool.not_false, F30, F42]
    have hl : (List.length (r ++ ([47] : List UInt8))) = r.length + 1 := by simp
    rw [hl]
    have hc : ((decide ((0 : Int) ≤ ((r.length + 1 : Nat) : Int)) && decide (((r.length + 1 : Nat) : Int) ≤ ((n.length : Nat) : Int))) || !decide (((r.length + 1 : Nat) : Int) ≤ ((n.length : Nat) : Int))) = true := by
      have : decide ((0 : Int) ≤ ((r.length + 1 : Nat) : Int)) = true := by simp; omega
      rw [this]
      cases decide (((r.length + 1 : Nat) : Int) ≤ ((n.length : Nat) : Int)) <;> rfl
    rw [hc]
    simp only [cond_true, Option.bind_some, under, hd, Bool.not_false, Bool.true_and, Int.toNat_natCast]
    congr 2
    by_cases hle : r.length + 1 ≤ n.length
    · have : decide (((r.length + 1 : Nat) : Int) ≤ ((n.length : Nat) : Int)) = true := by simp; omega
      rw [this, Bool.true_and]
    · have h1 : decide (((r.length + 1 : Nat) : Int) ≤ ((n.length : Nat) : Int)) = false := by simp; omega
      rw [h1, Bool.false_and]
      symm
      simp only [decide_eq_false_iff_not]
      intro he
      have := congrArg List.length he
      simp at this
      omega

theorem F17_eq {n r : List UInt8} : F17 ((n, r, ()), ()) = some (under n r, ()) := by
  have key : ∀ b : Bool, (b = true ↔ (r ≠ [] ∧ ∃ s, n = r ++ 47 :: s)) → b = under n r := fun b hb => by
    rw [Bool.eq_iff_iff, hb, under_iff]
  by_cases hlt : r.length < n.length
  · have e1 : decide (((r.length : Nat) : Int) < ((n.length : Nat) : Int)) = true := by simp; omega
    have e2 : decide (((r.length : Nat) : Int) ≤ ((n.length : Nat) : Int)) = true := by simp; omega
    have e3 : decide ((0 : Int) ≤ ((r.length : Nat) : Int)) = true := by simp
    simp only [F17, e1, e2, e3, Bool.and_true, Bool.true_or, cond_true, Int.toNat_natCast]
    congr 2
    refine key _ ?_
    simp only [Bool.and_eq_true, decide_eq_true_eq]
    constructor
    · rintro ⟨⟨h1, h2⟩, h3⟩
      refine ⟨fun h => by subst h; simp at h1, n.drop (r.length + 1), ?_⟩
      have := List.take_append_drop r.length n
      rw [h2] at this
      rw [List.getD_eq_getElem?_getD, List.getElem?_eq_getElem hlt, Option.getD_some] at h3
      rw [← h3, ← List.drop_eq_getElem_cons hlt, this]
    · rintro ⟨h1, s, rfl⟩
      refine ⟨⟨?_, by simp⟩, by simp⟩
      have : 0 < r.length := List.length_pos_iff.2 h1
      omega
  · have e1 : decide (((r.length : Nat) : Int) < ((n.length : Nat) : Int)) = false := by simp; omega
    simp only [F17, e1, Bool.and_false, Bool.false_and, Bool.not_false, Bool.or_true, cond_true]
    congr 2
    refine key _ ⟨fun h => by simp at h, fun ⟨_, s, h⟩ => ?_⟩
    subst h
    simp at hlt

/-- A name, moved. -/
def moved (n f t : List UInt8) : (List UInt8 × Bool × Unit) × Unit :=
  if n = f ∨ under n f = true then ((t ++ n.drop f.length, true, ()), ()) else (([], false, ()), ())

theorem tail_eq {n f t : List UInt8} (h : n = f ∨ under n f = true) (hn : n.length ≤ 1000) (ht : t.length ≤ 1000) :
    (cond ((decide ((0 : Int) ≤ ((f.length : Nat) : Int)) && decide (((f.length : Nat) : Int) ≤ ((n.length : Nat) : Int))) && decide (((n.length : Nat) : Int) ≤ ((n.length : Nat) : Int)))
      (cond (fits (List.length t + List.length (List.take (Int.toNat ((n.length : Nat) : Int) - Int.toNat ((f.length : Nat) : Int)) (List.drop (Int.toNat ((f.length : Nat) : Int)) n))))
        (some ((t ++ List.take (Int.toNat ((n.length : Nat) : Int) - Int.toNat ((f.length : Nat) : Int)) (List.drop (Int.toNat ((f.length : Nat) : Int)) n), true, ()), ())) none) none : Option ((List UInt8 × Bool × Unit) × Unit)) =
      some ((t ++ n.drop f.length, true, ()), ()) := by
  have hle : f.length ≤ n.length := by
    rcases h with h | h
    · rw [h]; exact Nat.le_refl _
    · obtain ⟨_, s, rfl⟩ := under_iff.1 h
      simp
  have e1 : (decide ((0 : Int) ≤ ((f.length : Nat) : Int)) && decide (((f.length : Nat) : Int) ≤ ((n.length : Nat) : Int)) && decide (((n.length : Nat) : Int) ≤ ((n.length : Nat) : Int))) = true := by
    simp; omega
  rw [e1, cond_true]
  simp only [Int.toNat_natCast]
  rw [List.take_of_length_le (by simp), fits_true (by simp; omega), cond_true]

theorem F18_eq {n f t : List UInt8} (hn : n.length ≤ 1000) (hf : f.length ≤ 1000) (ht : t.length ≤ 1000) : F18 ((n, f, t, ()), ()) = some (moved n f t) := by
  simp only [F18, F16_eq (show f.length ≤ 50000 by omega), Option.bind_some]
  unfold moved
  by_cases he : n = f
  · have hd : decide (n = f) = true := by simpa using he
    rw [if_pos (.inl he), hd, Bool.not_true, cond_false]
    exact tail_eq (.inl he) hn ht
  · have hd : decide (n = f) = false := by simpa using he
    rw [hd, Bool.not_false, cond_true]
    cases hu : under n f with
    | true =>
      rw [if_pos (.inr rfl), cond_true]
      exact tail_eq (.inr hu) hn ht
    | false => rw [if_neg (by simp [he]), cond_false]

theorem F19_eq {n f t : List UInt8} (hn : n.length ≤ 1000) (ht : t.length ≤ 1000) : F19 ((n, f, t, ()), ()) = some (moved n f t) := by
  simp only [F19, F17_eq, Option.bind_some]
  unfold moved
  by_cases he : n = f
  · have hd : decide (n = f) = true := by simpa using he
    rw [if_pos (.inl he), hd, Bool.not_true, cond_false]
    exact tail_eq (.inl he) hn ht
  · have hd : decide (n = f) = false := by simpa using he
    rw [hd, Bool.not_false, cond_true]
    cases hu : under n f with
    | true =>
      rw [if_pos (.inr rfl), cond_true]
      exact tail_eq (.inr hu) hn ht
    | false => rw [if_neg (by simp [he]), cond_false]

theorem F8_eq (s : List UInt8) : ∃ l, F8 ((s, ()), ()) = some (l, ()) ∧ l.length ≤ 200 := by
  by_cases h : 200 < s.length
  · have e1 : decide ((200 : Int) < ((s.length : Nat) : Int)) = true := by simp; omega
    have e2 : decide ((200 : Int) ≤ ((s.length : Nat) : Int)) = true := by simp; omega
    exact ⟨List.take 200 s, by simp only [F8, e1, e2, cond_true], by simp; omega⟩
  · have e1 : decide ((200 : Int) < ((s.length : Nat) : Int)) = false := by simp; omega
    exact ⟨s, by simp only [F8, e1, cond_false], by omega⟩

theorem live9 : F9 ((), ()) = some (true, ()) := by kernel_rfl

/-- GlobMoves is true. -/
theorem law6 (n f t : List UInt8) : F6 ((n, f, t, ()), ()) = some (true, ()) := by
  obtain ⟨n', h1, hn⟩ := F8_eq n
  obtain ⟨f', h2, hf⟩ := F8_eq f
  obtain ⟨t', h3, ht⟩ := F8_eq t
  simp only [F6, h1, h2, h3, Option.bind_some, F18_eq (show n'.length ≤ 1000 by omega) (show f'.length ≤ 1000 by omega) (show t'.length ≤ 1000 by omega), F19_eq (show n'.length ≤ 1000 by omega) (show t'.length ≤ 1000 by omega)]
  simp only [decide_true, beq_self_eq_true, Bool.not_true, Bool.or_self, cond_false]
  by_cases hm : n' = f' ∨ under n' f' = true
  · have hmv : moved n' f' t' = ((t' ++ n'.drop f'.length, true, ()), ()) := if_pos hm
    rw [hmv]
    simp only [Bool.not_true, cond_false]
    have hal : (t' ++ n'.drop f'.length).length ≤ 1000 := by simp; omega
    rw [F18_eq hal (show t'.length ≤ 1000 by omega) (show f'.length ≤ 1000 by omega)]
    simp only [Option.bind_some, live9]
    by_cases hc : (!decide (n' = f') && decide (t' = [])) = true
    · rw [hc, cond_true]
    · have hc' : (!decide (n' = f') && decide (t' = [])) = false := by simpa using hc
      rw [hc', cond_false]
      have hback : (t' ++ n'.drop f'.length = t' ∨ under (t' ++ n'.drop f'.length) t' = true) := by
        rcases hm with hm | hm
        · left; rw [hm]; simp
        · obtain ⟨hf0, s, hs⟩ := under_iff.1 hm
          right
          refine under_iff.2 ⟨?_, s, ?_⟩
          · intro ht0
            have hne : n' ≠ f' := fun h => by
              have := congrArg List.length h
              rw [hs] at this
              simp at this
            simp [hne, ht0] at hc'
          · rw [hs]; simp
      have hmb : moved (t' ++ n'.drop f'.length) t' f' = ((f' ++ (t' ++ n'.drop f'.length).drop t'.length, true, ()), ()) := if_pos hback
      have hn2 : f' ++ (t' ++ n'.drop f'.length).drop t'.length = n' := by
        rw [List.drop_left]
        rcases hm with hm | hm
        · rw [hm]; simp
        · obtain ⟨_, s, hs⟩ := under_iff.1 hm
          rw [hs]; simp
      rw [hmb]
      simp only [hn2, decide_true, Bool.and_self, cond_true]
      by_cases he : n' = f'
      · have hd : decide (n' = f') = true := by simpa using he
        rw [hd]; rfl
      · have hd : decide (n' = f') = false := by simpa using he
        rw [hd, Bool.not_false, cond_true, F16_eq (show t'.length ≤ 50000 by omega)]
        have hu : under (t' ++ n'.drop f'.length) t' = true := by
          rcases hback with hb | hb
          · exfalso
            have hlen := congrArg List.length hb
            simp at hlen
            rcases hm with hm | hm
            · exact he hm
            · obtain ⟨_, s, hs⟩ := under_iff.1 hm
              rw [hs] at hlen
              simp at hlen
          · exact hb
        rw [hu]; rfl
  · have hmv : moved n' f' t' = (([], false, ()), ()) := if_neg hm
    rw [hmv]
    simp only [Bool.not_false, cond_true, live9, Option.bind_some, decide_true, Bool.and_self]

end Go.Gl
