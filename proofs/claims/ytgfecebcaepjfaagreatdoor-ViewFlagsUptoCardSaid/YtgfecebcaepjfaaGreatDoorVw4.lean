/- Flags in words: the law ViewFlags. -/
import Derived.Test.YtgfecebcaepjfaaGreatDoorVw3
namespace Go.Vw
open Go Go.Ev
set_option maxRecDepth 100000

theorem iter_inl {σ τ : Type} {f : σ → Option (σ ⊕ τ)} {p q : σ} {n : Nat} (h : f p = some (.inl q)) : iter f (n + 1) p = iter f n q := by simp only [iter, h]
theorem iter_inr {σ τ : Type} {f : σ → Option (σ ⊕ τ)} {p : σ} {r : τ} {n : Nat} (h : f p = some (.inr r)) : iter f (n + 1) p = some r := by simp only [iter, h]
theorem FUEL_six : ∃ k, FUEL = k + 6 := ⟨FUEL - 6, by have := FUEL_big; omega⟩

def wA : List UInt8 := [92, 65, 110, 115, 119, 101, 114, 101, 100]
def wF : List UInt8 := [92, 70, 108, 97, 103, 103, 101, 100]
def wD : List UInt8 := [92, 68, 101, 108, 101, 116, 101, 100]
def wS : List UInt8 := [92, 83, 101, 101, 110]
def wR : List UInt8 := [92, 68, 114, 97, 102, 116]
abbrev Arr := UInt8 × List UInt8 × UInt8 × List UInt8 × UInt8 × List UInt8 × UInt8 × List UInt8 × UInt8 × List UInt8 × Unit
def arr : Arr := (2, wA, 4, wF, 8, wD, 1, wS, 16, wR, ())
theorem F20_eq : F20 ((), ()) = some (arr, ()) := rfl

/-- the bit of a word in small letters -/
def bt (x : List UInt8) : Option UInt8 :=
  if wA.map lowc = x then some 2 else if wF.map lowc = x then some 4 else if wD.map lowc = x then some 8 else if wS.map lowc = x then some 1 else if wR.map lowc = x then some 16 else none

theorem inner6 (acc : UInt8) (w : List UInt8) (hw : w.length ≤ maxLen) (l : List (List UInt8)) (n i : Int) : L6_1 ((acc, w, l, n, i, arr, (0:Int), ()), ()) = some (match bt (w.map lowc) with
    | some b => .inl ((acc ||| b, l, n, i, ()), ())
    | none => .inr ((), ())) := by
  obtain ⟨k, hk⟩ := FUEL_six
  have l0 : decide ((0:Int) < (5:Int)) = true := rfl
  have w0 : w64 ((0:Int) + 1) = 1 := rfl
  have d10 : decide ((1:Int) = (0:Int)) = false := rfl
  have l1 : decide ((1:Int) < (5:Int)) = true := rfl
  have w1 : w64 ((1:Int) + 1) = 2 := rfl
  have d20 : decide ((2:Int) = (0:Int)) = false := rfl
  have d21 : decide ((2:Int) = (1:Int)) = false := rfl
  have l2 : decide ((2:Int) < (5:Int)) = true := rfl
  have w2 : w64 ((2:Int) + 1) = 3 := rfl
  have d30 : decide ((3:Int) = (0:Int)) = false := rfl
  have d31 : decide ((3:Int) = (1:Int)) = false := rfl
  have d32 : decide ((3:Int) = (2:Int)) = false := rfl
  have l3 : decide ((3:Int) < (5:Int)) = true := rfl
  have w3 : w64 ((3:Int) + 1) = 4 := rfl
  have d40 : decide ((4:Int) = (0:Int)) = false := rfl
  have d41 : decide ((4:Int) = (1:Int)) = false := rfl
  have d42 : decide ((4:Int) = (2:Int)) = false := rfl
  have d43 : decide ((4:Int) = (3:Int)) = false := rfl
  have l4 : decide ((4:Int) < (5:Int)) = true := rfl
  have w4 : w64 ((4:Int) + 1) = 5 := rfl
  have l5 : decide ((5:Int) < (5:Int)) = false := rfl
  have h0 := F21_eq wA w (by unfold wA maxLen; decide) hw
  have h1 := F21_eq wF w (by unfold wF maxLen; decide) hw
  have h2 := F21_eq wD w (by unfold wD maxLen; decide) hw
  have h3 := F21_eq wS w (by unfold wS maxLen; decide) hw
  have h4 := F21_eq wR w (by unfold wR maxLen; decide) hw
  unfold L6_1 loopOf bt
  rw [hk]
  by_cases m0 : wA.map lowc = w.map lowc
  · rw [if_pos m0, iter_inr (r := .inl ((acc ||| 2, l, n, i, ()), ())) (by simp only [B6_1, arr, l0, decide_true, cond_true, h0, decide_eq_true m0, Option.bind_some])]
  · rw [if_neg m0, iter_inl (q := ((acc, w, l, n, i, arr, (1:Int), ()), ())) (by simp only [B6_1, arr, l0, w0, decide_true, cond_true, cond_false, h0, decide_eq_false m0, Option.bind_some])]
    by_cases m1 : wF.map lowc = w.map lowc
    · rw [if_pos m1, iter_inr (r := .inl ((acc ||| 4, l, n, i, ()), ())) (by simp only [B6_1, arr, d10, l1, decide_true, cond_true, cond_false, h1, decide_eq_true m1, Option.bind_some])]
    · rw [if_neg m1, iter_inl (q := ((acc, w, l, n, i, arr, (2:Int), ()), ())) (by simp only [B6_1, arr, d10, l1, w1, decide_true, cond_true, cond_false, h1, decide_eq_false m1, Option.bind_some])]
      by_cases m2 : wD.map lowc = w.map lowc
      · rw [if_pos m2, iter_inr (r := .inl ((acc ||| 8, l, n, i, ()), ())) (by simp only [B6_1, arr, d20, d21, l2, decide_true, cond_true, cond_false, h2, decide_eq_true m2, Option.bind_some])]
      · rw [if_neg m2, iter_inl (q := ((acc, w, l, n, i, arr, (3:Int), ()), ())) (by simp only [B6_1, arr, d20, d21, l2, w2, decide_true, cond_true, cond_false, h2, decide_eq_false m2, Option.bind_some])]
        by_cases m3 : wS.map lowc = w.map lowc
        · rw [if_pos m3, iter_inr (r := .inl ((acc ||| 1, l, n, i, ()), ())) (by simp only [B6_1, arr, d30, d31, d32, l3, decide_true, cond_true, cond_false, h3, decide_eq_true m3, Option.bind_some])]
        · rw [if_neg m3, iter_inl (q := ((acc, w, l, n, i, arr, (4:Int), ()), ())) (by simp only [B6_1, arr, d30, d31, d32, l3, w3, decide_true, cond_true, cond_false, h3, decide_eq_false m3, Option.bind_some])]
          by_cases m4 : wR.map lowc = w.map lowc
          · rw [if_pos m4, iter_inr (r := .inl ((acc ||| 16, l, n, i, ()), ())) (by simp only [B6_1, arr, d40, d41, d42, d43, l4, decide_true, cond_true, cond_false, h4, decide_eq_true m4, Option.bind_some])]
          · rw [if_neg m4, iter_inl (q := ((acc, w, l, n, i, arr, (5:Int), ()), ())) (by simp only [B6_1, arr, d40, d41, d42, d43, l4, w4, decide_true, cond_true, cond_false, h4, decide_eq_false m4, Option.bind_some])]
            rw [iter_inr (r := .inr ((), ())) (by simp only [B6_1, l5, cond_false])]

end Go.Vw
