/- Flags in words: the law ViewFlags. -/
import Derived.Test.YtgfecebcaepjfaaGreatDoorVw4
namespace Go.Vw
open Go Go.Ev
set_option maxRecDepth 100000

def nS : List UInt8 := [92, 115, 101, 101, 110]
def nA : List UInt8 := [92, 97, 110, 115, 119, 101, 114, 101, 100]
def nF : List UInt8 := [92, 102, 108, 97, 103, 103, 101, 100]
def nD : List UInt8 := [92, 100, 101, 108, 101, 116, 101, 100]
def nR : List UInt8 := [92, 100, 114, 97, 102, 116]
def nms : List (List UInt8) := [nS, nA, nF, nD, nR]
theorem lowS : wS.map lowc = nS := by decide
theorem lowA : wA.map lowc = nA := by decide
theorem lowF : wF.map lowc = nF := by decide
theorem lowD : wD.map lowc = nD := by decide
theorem lowR : wR.map lowc = nR := by decide
theorem inner7 (out : UInt8) (w : List UInt8) (hw : w.length ≤ 8000000) (l : List (List UInt8)) (i : Nat) (hi : i < l.length) (hl : l.getD i [] = w) : L7_1 ((l, (), out, (i : Int), false, (1:UInt8), (0:Int), ()), (nms, ())) = some (match bt (w.map lowc) with
    | some b => ((l, (), out ||| b, (i : Int), true, ()), (nms, ()))
    | none => ((l, (), out, (i : Int), false, ()), (nms, ()))) := by
  obtain ⟨k, hk⟩ := FUEL_six
  have l0 : decide ((0:Int) < ((nms.length : Nat) : Int)) = true := rfl
  have w0 : w64 ((0:Int) + 1) = 1 := rfl
  have z0 : decide ((0:Int) ≤ (0:Int)) = true := rfl
  have g0 : List.getD nms (Int.toNat (0:Int)) ([]:List UInt8) = nS := rfl
  have b0 : (1 : UInt8) * 2 = 2 := rfl
  have l1 : decide ((1:Int) < ((nms.length : Nat) : Int)) = true := rfl
  have w1 : w64 ((1:Int) + 1) = 2 := rfl
  have z1 : decide ((0:Int) ≤ (1:Int)) = true := rfl
  have g1 : List.getD nms (Int.toNat (1:Int)) ([]:List UInt8) = nA := rfl
  have b1 : (2 : UInt8) * 2 = 4 := rfl
  have l2 : decide ((2:Int) < ((nms.length : Nat) : Int)) = true := rfl
  have w2 : w64 ((2:Int) + 1) = 3 := rfl
  have z2 : decide ((0:Int) ≤ (2:Int)) = true := rfl
  have g2 : List.getD nms (Int.toNat (2:Int)) ([]:List UInt8) = nF := rfl
  have b2 : (4 : UInt8) * 2 = 8 := rfl
  have l3 : decide ((3:Int) < ((nms.length : Nat) : Int)) = true := rfl
  have w3 : w64 ((3:Int) + 1) = 4 := rfl
  have z3 : decide ((0:Int) ≤ (3:Int)) = true := rfl
  have g3 : List.getD nms (Int.toNat (3:Int)) ([]:List UInt8) = nD := rfl
  have b3 : (8 : UInt8) * 2 = 16 := rfl
  have l4 : decide ((4:Int) < ((nms.length : Nat) : Int)) = true := rfl
  have w4 : w64 ((4:Int) + 1) = 5 := rfl
  have z4 : decide ((0:Int) ≤ (4:Int)) = true := rfl
  have g4 : List.getD nms (Int.toNat (4:Int)) ([]:List UInt8) = nR := rfl
  have b4 : (16 : UInt8) * 2 = 32 := rfl
  have l5 : decide ((5:Int) < ((nms.length : Nat) : Int)) = false := rfl
  have h := F22_eq w hw
  have hi1 : decide ((i : Int) < (l.length : Int)) = true := decide_eq_true (by omega)
  have hi0 : decide ((0 : Int) ≤ (i : Int)) = true := decide_eq_true (by omega)
  unfold L7_1 loopOf bt
  rw [hk, lowA, lowF, lowD, lowS, lowR]
  generalize w.map lowc = x at h ⊢
  by_cases mA : nA = x
  · subst mA
    have eS : decide (nA = nS) = false := by decide
    have eA : decide (nA = nA) = true := by decide
    have eF : decide (nA = nF) = false := by decide
    have eD : decide (nA = nD) = false := by decide
    have eR : decide (nA = nR) = false := by decide
    rw [if_pos rfl]
    rw [iter_inl (q := ((l, (), out, (i : Int), false, (2:UInt8), (1:Int), ()), (nms, ()))) (by simp only [B7_1, l0, w0, z0, g0, b0, hi0, hi1, Bool.and_self, Int.toNat_natCast, hl, h, Option.bind_some, cond_true, cond_false, eS])]
    rw [iter_inl (q := ((l, (), out ||| 2, (i : Int), true, (4:UInt8), (2:Int), ()), (nms, ()))) (by simp only [B7_1, l1, w1, z1, g1, b1, hi0, hi1, Bool.and_self, Int.toNat_natCast, hl, h, Option.bind_some, cond_true, decide_true])]
    rw [iter_inl (q := ((l, (), out ||| 2, (i : Int), true, (8:UInt8), (3:Int), ()), (nms, ()))) (by simp only [B7_1, l2, w2, z2, g2, b2, hi0, hi1, Bool.and_self, Int.toNat_natCast, hl, h, Option.bind_some, cond_true, cond_false, eF])]
    rw [iter_inl (q := ((l, (), out ||| 2, (i : Int), true, (16:UInt8), (4:Int), ()), (nms, ()))) (by simp only [B7_1, l3, w3, z3, g3, b3, hi0, hi1, Bool.and_self, Int.toNat_natCast, hl, h, Option.bind_some, cond_true, cond_false, eD])]
    rw [iter_inl (q := ((l, (), out ||| 2, (i : Int), true, (32:UInt8), (5:Int), ()), (nms, ()))) (by simp only [B7_1, l4, w4, z4, g4, b4, hi0, hi1, Bool.and_self, Int.toNat_natCast, hl, h, Option.bind_some, cond_true, cond_false, eR])]
    rw [iter_inr (r := ((l, (), out ||| 2, (i : Int), true, ()), (nms, ()))) (by simp only [B7_1, l5, cond_false])]
  · rw [if_neg mA]
    by_cases mF : nF = x
    · subst mF
      have eS : decide (nF = nS) = false := by decide
      have eA : decide (nF = nA) = false := by decide
      have eF : decide (nF = nF) = true := by decide
      have eD : decide (nF = nD) = false := by decide
      have eR : decide (nF = nR) = false := by decide
      rw [if_pos rfl]
      rw [iter_inl (q := ((l, (), out, (i : Int), false, (2:UInt8), (1:Int), ()), (nms, ()))) (by simp only [B7_1, l0, w0, z0, g0, b0, hi0, hi1, Bool.and_self, Int.toNat_natCast, hl, h, Option.bind_some, cond_true, cond_false, eS])]
      rw [iter_inl (q := ((l, (), out, (i : Int), false, (4:UInt8), (2:Int), ()), (nms, ()))) (by simp only [B7_1, l1, w1, z1, g1, b1, hi0, hi1, Bool.and_self, Int.toNat_natCast, hl, h, Option.bind_some, cond_true, cond_false, eA])]
      rw [iter_inl (q := ((l, (), out ||| 4, (i : Int), true, (8:UInt8), (3:Int), ()), (nms, ()))) (by simp only [B7_1, l2, w2, z2, g2, b2, hi0, hi1, Bool.and_self, Int.toNat_natCast, hl, h, Option.bind_some, cond_true, decide_true])]
      rw [iter_inl (q := ((l, (), out ||| 4, (i : Int), true, (16:UInt8), (4:Int), ()), (nms, ()))) (by simp only [B7_1, l3, w3, z3, g3, b3, hi0, hi1, Bool.and_self, Int.toNat_natCast, hl, h, Option.bind_some, cond_true, cond_false, eD])]
      rw [iter_inl (q := ((l, (), out ||| 4, (i : Int), true, (32:UInt8), (5:Int), ()), (nms, ()))) (by simp only [B7_1, l4, w4, z4, g4, b4, hi0, hi1, Bool.and_self, Int.toNat_natCast, hl, h, Option.bind_some, cond_true, cond_false, eR])]
      rw [iter_inr (r := ((l, (), out ||| 4, (i : Int), true, ()), (nms, ()))) (by simp only [B7_1, l5, cond_false])]
    · rw [if_neg mF]
      by_cases mD : nD = x
      · subst mD
        have eS : decide (nD = nS) = false := by decide
        have eA : decide (nD = nA) = false := by decide
        have eF : decide (nD = nF) = false := by decide
        have eD : decide (nD = nD) = true := by decide
        have eR : decide (nD = nR) = false := by decide
        rw [if_pos rfl]
        rw [iter_inl (q := ((l, (), out, (i : Int), false, (2:UInt8), (1:Int), ()), (nms, ()))) (by simp only [B7_1, l0, w0, z0, g0, b0, hi0, hi1, Bool.and_self, Int.toNat_natCast, hl, h, Option.bind_some, cond_true, cond_false, eS])]
        rw [iter_inl (q := ((l, (), out, (i : Int), false, (4:UInt8), (2:Int), ()), (nms, ()))) (by simp only [B7_1, l1, w1, z1, g1, b1, hi0, hi1, Bool.and_self, Int.toNat_natCast, hl, h, Option.bind_some, cond_true, cond_false, eA])]
        rw [iter_inl (q := ((l, (), out, (i : Int), false, (8:UInt8), (3:Int), ()), (nms, ()))) (by simp only [B7_1, l2, w2, z2, g2, b2, hi0, hi1, Bool.and_self, Int.toNat_natCast, hl, h, Option.bind_some, cond_true, cond_false, eF])]
        rw [iter_inl (q := ((l, (), out ||| 8, (i : Int), true, (16:UInt8), (4:Int), ()), (nms, ()))) (by simp only [B7_1, l3, w3, z3, g3, b3, hi0, hi1, Bool.and_self, Int.toNat_natCast, hl, h, Option.bind_some, cond_true, decide_true])]
        rw [iter_inl (q := ((l, (), out ||| 8, (i : Int), true, (32:UInt8), (5:Int), ()), (nms, ()))) (by simp only [B7_1, l4, w4, z4, g4, b4, hi0, hi1, Bool.and_self, Int.toNat_natCast, hl, h, Option.bind_some, cond_true, cond_false, eR])]
        rw [iter_inr (r := ((l, (), out ||| 8, (i : Int), true, ()), (nms, ()))) (by simp only [B7_1, l5, cond_false])]
      · rw [if_neg mD]
        by_cases mS : nS = x
        · subst mS
          have eS : decide (nS = nS) = true := by decide
          have eA : decide (nS = nA) = false := by decide
          have eF : decide (nS = nF) = false := by decide
          have eD : decide (nS = nD) = false := by decide
          have eR : decide (nS = nR) = false := by decide
          rw [if_pos rfl]
          rw [iter_inl (q := ((l, (), out ||| 1, (i : Int), true, (2:UInt8), (1:Int), ()), (nms, ()))) (by simp only [B7_1, l0, w0, z0, g0, b0, hi0, hi1, Bool.and_self, Int.toNat_natCast, hl, h, Option.bind_some, cond_true, decide_true])]
          rw [iter_inl (q := ((l, (), out ||| 1, (i : Int), true, (4:UInt8), (2:Int), ()), (nms, ()))) (by simp only [B7_1, l1, w1, z1, g1, b1, hi0, hi1, Bool.and_self, Int.toNat_natCast, hl, h, Option.bind_some, cond_true, cond_false, eA])]
          rw [iter_inl (q := ((l, (), out ||| 1, (i : Int), true, (8:UInt8), (3:Int), ()), (nms, ()))) (by simp only [B7_1, l2, w2, z2, g2, b2, hi0, hi1, Bool.and_self, Int.toNat_natCast, hl, h, Option.bind_some, cond_true, cond_false, eF])]
          rw [iter_inl (q := ((l, (), out ||| 1, (i : Int), true, (16:UInt8), (4:Int), ()), (nms, ()))) (by simp only [B7_1, l3, w3, z3, g3, b3, hi0, hi1, Bool.and_self, Int.toNat_natCast, hl, h, Option.bind_some, cond_true, cond_false, eD])]
          rw [iter_inl (q := ((l, (), out ||| 1, (i : Int), true, (32:UInt8), (5:Int), ()), (nms, ()))) (by simp only [B7_1, l4, w4, z4, g4, b4, hi0, hi1, Bool.and_self, Int.toNat_natCast, hl, h, Option.bind_some, cond_true, cond_false, eR])]
          rw [iter_inr (r := ((l, (), out ||| 1, (i : Int), true, ()), (nms, ()))) (by simp only [B7_1, l5, cond_false])]
        · rw [if_neg mS]
          by_cases mR : nR = x
          · subst mR
            have eS : decide (nR = nS) = false := by decide
            have eA : decide (nR = nA) = false := by decide
            have eF : decide (nR = nF) = false := by decide
            have eD : decide (nR = nD) = false := by decide
            have eR : decide (nR = nR) = true := by decide
            rw [if_pos rfl]
            rw [iter_inl (q := ((l, (), out, (i : Int), false, (2:UInt8), (1:Int), ()), (nms, ()))) (by simp only [B7_1, l0, w0, z0, g0, b0, hi0, hi1, Bool.and_self, Int.toNat_natCast, hl, h, Option.bind_some, cond_true, cond_false, eS])]
            rw [iter_inl (q := ((l, (), out, (i : Int), false, (4:UInt8), (2:Int), ()), (nms, ()))) (by simp only [B7_1, l1, w1, z1, g1, b1, hi0, hi1, Bool.and_self, Int.toNat_natCast, hl, h, Option.bind_some, cond_true, cond_false, eA])]
            rw [iter_inl (q := ((l, (), out, (i : Int), false, (8:UInt8), (3:Int), ()), (nms, ()))) (by simp only [B7_1, l2, w2, z2, g2, b2, hi0, hi1, Bool.and_self, Int.toNat_natCast, hl, h, Option.bind_some, cond_true, cond_false, eF])]
            rw [iter_inl (q := ((l, (), out, (i : Int), false, (16:UInt8), (4:Int), ()), (nms, ()))) (by simp only [B7_1, l3, w3, z3, g3, b3, hi0, hi1, Bool.and_self, Int.toNat_natCast, hl, h, Option.bind_some, cond_true, cond_false, eD])]
            rw [iter_inl (q := ((l, (), out ||| 16, (i : Int), true, (32:UInt8), (5:Int), ()), (nms, ()))) (by simp only [B7_1, l4, w4, z4, g4, b4, hi0, hi1, Bool.and_self, Int.toNat_natCast, hl, h, Option.bind_some, cond_true, decide_true])]
            rw [iter_inr (r := ((l, (), out ||| 16, (i : Int), true, ()), (nms, ()))) (by simp only [B7_1, l5, cond_false])]
          · rw [if_neg mR]
            have eS : decide (x = nS) = false := decide_eq_false fun h => mS h.symm
            have eA : decide (x = nA) = false := decide_eq_false fun h => mA h.symm
            have eF : decide (x = nF) = false := decide_eq_false fun h => mF h.symm
            have eD : decide (x = nD) = false := decide_eq_false fun h => mD h.symm
            have eR : decide (x = nR) = false := decide_eq_false fun h => mR h.symm
            rw [iter_inl (q := ((l, (), out, (i : Int), false, (2:UInt8), (1:Int), ()), (nms, ()))) (by simp only [B7_1, l0, w0, z0, g0, b0, hi0, hi1, Bool.and_self, Int.toNat_natCast, hl, h, Option.bind_some, cond_true, cond_false, eS])]
            rw [iter_inl (q := ((l, (), out, (i : Int), false, (4:UInt8), (2:Int), ()), (nms, ()))) (by simp only [B7_1, l1, w1, z1, g1, b1, hi0, hi1, Bool.and_self, Int.toNat_natCast, hl, h, Option.bind_some, cond_true, cond_false, eA])]
            rw [iter_inl (q := ((l, (), out, (i : Int), false, (8:UInt8), (3:Int), ()), (nms, ()))) (by simp only [B7_1, l2, w2, z2, g2, b2, hi0, hi1, Bool.and_self, Int.toNat_natCast, hl, h, Option.bind_some, cond_true, cond_false, eF])]
            rw [iter_inl (q := ((l, (), out, (i : Int), false, (16:UInt8), (4:Int), ()), (nms, ()))) (by simp only [B7_1, l3, w3, z3, g3, b3, hi0, hi1, Bool.and_self, Int.toNat_natCast, hl, h, Option.bind_some, cond_true, cond_false, eD])]
            rw [iter_inl (q := ((l, (), out, (i : Int), false, (32:UInt8), (5:Int), ()), (nms, ()))) (by simp only [B7_1, l4, w4, z4, g4, b4, hi0, hi1, Bool.and_self, Int.toNat_natCast, hl, h, Option.bind_some, cond_true, cond_false, eR])]
            rw [iter_inr (r := ((l, (), out, (i : Int), false, ()), (nms, ()))) (by simp only [B7_1, l5, cond_false])]

/-- the flags of words -/
def pfw : List (List UInt8) → UInt8 → UInt8 × Bool
  | [], acc => (acc, true)
  | w :: r, acc => match bt (w.map lowc) with
    | some b => pfw r (acc ||| b)
    | none => (0, false)

theorem getL {l : List (List UInt8)} {i : Nat} (h : i < l.length) : ∃ w, l.getD i [] = w ∧ l.drop i = w :: l.drop (i + 1) ∧ w ∈ l := by
  refine ⟨l[i], ?_, List.drop_eq_getElem_cons h, List.getElem_mem h⟩
  rw [List.getD_eq_getElem?_getD, List.getElem?_eq_getElem h]; rfl

theorem F6_eq (l : List (List UInt8)) (hl : l.length ≤ 8000000) (hx : ∀ w ∈ l, w.length ≤ 8000000) : F6 ((l, ()), ()) = some (((pfw l 0).1, (pfw l 0).2, ()), ()) := by
  generalize hR : pfw l 0 = R
  obtain ⟨r, h1, h2⟩ := loop_ind (f := B6_0)
    (I := fun p => ∃ (i : Nat) (acc : UInt8), p = ((acc, l, (l.length : Int), (i : Int), ()), ()) ∧ i ≤ l.length ∧ pfw (l.drop i) acc = R)
    (μ := fun p => l.length - p.1.2.2.2.1.toNat)
    (Q := fun r => (r = .inl ((R.1, ()), ()) ∧ R.2 = true) ∨ (r = .inr ((0, (), ()), ()) ∧ R = (0, false)))
    (step := fun p hp => by
      obtain ⟨i, acc, rfl, g1, g2⟩ := hp
      by_cases hlt : i < l.length
      · have hw := w64_nat (show i < 9223372036854775807 by omega)
        obtain ⟨w, k1, k2, k3⟩ := getL hlt
        have hin := inner6 acc w (Nat.le_trans (hx w k3) (by unfold maxLen; omega)) l (l.length : Int) (i : Int)
        simp only [arr] at hin
        have hF := F20_eq
        simp only [arr] at hF
        rw [k2, pfw] at g2
        have z : ((Int.toNat (i : Int)) : Nat) = i := Int.toNat_natCast i
        cases hb : bt (w.map lowc) with
        | some b =>
          rw [hb] at g2 hin
          simp only at g2 hin
          refine .inl ⟨_, ?_, ⟨i + 1, acc ||| b, rfl, hlt, g2⟩, ?_⟩
          · simp only [B6_0, nat_lt, nat_nn, hlt, decide_true, Bool.and_self, cond_true, z, k1, hF, Option.bind_some, hin, hw]
          · show l.length - ((i + 1 : Nat) : Int).toNat < l.length - (i : Int).toNat
            omega
        | none =>
          rw [hb] at g2 hin
          simp only at g2 hin
          refine .inr ⟨.inr ((0, (), ()), ()), ?_, .inr ⟨rfl, g2.symm⟩⟩
          simp only [B6_0, nat_lt, nat_nn, hlt, decide_true, Bool.and_self, cond_true, z, k1, hF, Option.bind_some, hin]
      · rw [List.drop_eq_nil_of_le (by omega), pfw] at g2
        refine .inr ⟨.inl ((R.1, ()), ()), ?_, .inl ⟨rfl, by rw [← g2]⟩⟩
        rw [← g2]
        simp only [B6_0, nat_lt, hlt, decide_false, cond_false])
    (p := (((0 : UInt8), l, (l.length : Int), (0 : Int), ()), ())) ⟨0, 0, rfl, Nat.zero_le _, hR⟩ (by
      have := FUEL_big
      show l.length - (0 : Int).toNat < FUEL
      omega)
  have h1' : L6_0 (((0 : UInt8), l, (l.length : Int), (0 : Int), ()), ()) = some r := h1
  simp only [F6, h1', Option.bind_some]
  rcases h2 with ⟨rfl, h⟩ | ⟨rfl, h⟩
  · simp only [Option.bind_some, h]
  · simp only [Option.bind_some, h]

theorem F7_eq (l : List (List UInt8)) (hl : l.length ≤ 8000000) (hx : ∀ w ∈ l, w.length ≤ 8000000) : F7 ((l, ()), ()) = some (((pfw l 0).1, (pfw l 0).2, ()), ()) := by
  generalize hR : pfw l 0 = R
  obtain ⟨r, h1, h2⟩ := loop_ind (f := B7_0)
    (I := fun p => ∃ (i : Nat) (acc : UInt8), p = ((l, (), acc, (i : Int), ()), (nms, ())) ∧ i ≤ l.length ∧ pfw (l.drop i) acc = R)
    (μ := fun p => l.length - p.1.2.2.2.1.toNat)
    (Q := fun r => (r = .inl ((R.1, ()), ()) ∧ R.2 = true) ∨ (r = .inr ((0, (), ()), ()) ∧ R = (0, false)))
    (step := fun p hp => by
      obtain ⟨i, acc, rfl, g1, g2⟩ := hp
      by_cases hlt : i < l.length
      · have hw := w64_nat (show i < 9223372036854775807 by omega)
        obtain ⟨w, k1, k2, k3⟩ := getL hlt
        have hin := inner7 acc w (hx w k3) l i hlt k1
        rw [k2, pfw] at g2
        cases hb : bt (w.map lowc) with
        | some b =>
          rw [hb] at g2 hin
          simp only at g2 hin
          refine .inl ⟨_, ?_, ⟨i + 1, acc ||| b, rfl, hlt, g2⟩, ?_⟩
          · simp only [B7_0, nat_lt, hlt, decide_true, cond_true, Option.bind_some, hin, Bool.not_true, cond_false, hw]
          · show l.length - ((i + 1 : Nat) : Int).toNat < l.length - (i : Int).toNat
            omega
        | none =>
          rw [hb] at g2 hin
          simp only at g2 hin
          refine .inr ⟨.inr ((0, (), ()), ()), ?_, .inr ⟨rfl, g2.symm⟩⟩
          simp only [B7_0, nat_lt, hlt, decide_true, cond_true, Option.bind_some, hin, Bool.not_false]
      · rw [List.drop_eq_nil_of_le (by omega), pfw] at g2
        refine .inr ⟨.inl ((R.1, ()), ()), ?_, .inl ⟨rfl, by rw [← g2]⟩⟩
        rw [← g2]
        simp only [B7_0, nat_lt, hlt, decide_false, cond_false])
    (p := ((l, (), (0 : UInt8), (0 : Int), ()), (nms, ()))) ⟨0, 0, rfl, Nat.zero_le _, hR⟩ (by
      have := FUEL_big
      show l.length - (0 : Int).toNat < FUEL
      omega)
  have h1' : L7_0 ((l, (), (0 : UInt8), (0 : Int), ()), (nms, ())) = some r := h1
  have hn : (([([92, 115, 101, 101, 110]:List UInt8), ([92, 97, 110, 115, 119, 101, 114, 101, 100]:List UInt8), ([92, 102, 108, 97, 103, 103, 101, 100]:List UInt8), ([92, 100, 101, 108, 101, 116, 101, 100]:List UInt8), ([92, 100, 114, 97, 102, 116]:List UInt8)]:List (List UInt8))) = nms := rfl
  simp only [F7, hn, Option.bind_some, h1']
  rcases h2 with ⟨rfl, h⟩ | ⟨rfl, h⟩
  · simp only [Option.bind_some, h]
  · simp only [Option.bind_some, h]

end Go.Vw
