/- Matches; the laws of matches. -/
import Derived.Test.YtfajnpikmhnnlaaDoorGl7
namespace Go.Gl
open Go Go.Ev
set_option maxRecDepth 100000

def low1 (b : UInt8) : UInt8 := if 65 ≤ b.toNat ∧ b.toNat ≤ 90 then b + 32 else b

def low (s : List UInt8) : List UInt8 := s.map low1

theorem getD_lt {s : List UInt8} {i : Nat} (h : i < s.length) : s.getD i 0 = s[i] := by
  rw [List.getD_eq_getElem?_getD, List.getElem?_eq_getElem h]; rfl

theorem F12_eq {s : List UInt8} (hs : s.length ≤ 500) : F12 ((s, ()), ()) = some (low s, ()) := by
  obtain ⟨r, h1, h2⟩ := loop_ind (f := B12_0) (fun p => ∃ (i : Nat), p = ((s, low (s.take i), (i : Int), ()), ()) ∧ i ≤ s.length) (fun p => ((s.length : Int) - p.1.2.2.1).toNat) (fun r => r = ((low s, ()), ()))
    (fun p ⟨i, hp, hi⟩ => by
      subst hp
      by_cases hlt : i < s.length
      · left
        have c1 : decide ((i : Int) < ((s.length : Nat) : Int)) = true := by simp; omega
        have c2 : decide ((0 : Int) ≤ (i : Int)) = true := by simp
        have wi : w64 ((i : Int) + 1) = ((i + 1 : Nat) : Int) := by rw [w64_id (by omega) (by omega)]; rfl
        have hl : (low (s.take i)).length = i := by simp [low]; omega
        refine ⟨((s, low (s.take (i + 1)), ((i + 1 : Nat) : Int), ()), ()), ?_, ⟨i + 1, rfl, by omega⟩, by simp only; omega⟩
        have hls : low (s.take (i + 1)) = low (s.take i) ++ [low1 (s.getD i 0)] := by
          rw [take_snoc hlt 0]; simp [low]
        have g1 : ∀ x : UInt8, fits ((low (s.take i)).length + [x].length) = true := fun x => fits_true (by rw [hl]; simp; omega)
        rw [hls]
        unfold low1
        by_cases hc : 65 ≤ (s.getD i 0).toNat ∧ (s.getD i 0).toNat ≤ 90
        · have c3 : (decide (UInt8.toNat (65 : UInt8) ≤ (s.getD i 0).toNat) && decide ((s.getD i 0).toNat ≤ UInt8.toNat (90 : UInt8))) = true := by
            simpa using hc
          simp only [B12_0, c1, c2, Bool.and_self, cond_true, Option.bind_some, Int.toNat_natCast, c3, g1, wi, if_pos hc]
        · have c3 : (decide (UInt8.toNat (65 : UInt8) ≤ (s.getD i 0).toNat) && decide ((s.getD i 0).toNat ≤ UInt8.toNat (90 : UInt8))) = false := by
            rw [← Bool.decide_and, decide_eq_false_iff_not]; exact hc
          simp only [B12_0, c1, c2, Bool.and_self, cond_true, cond_false, Option.bind_some, Int.toNat_natCast, c3, g1, wi, if_neg hc]
      · right
        have c1 : decide ((i : Int) < ((s.length : Nat) : Int)) = false := by simp; omega
        exact ⟨_, by simp only [B12_0, c1, cond_false] <;> rfl, by rw [List.take_of_length_le (by omega)]⟩)
    (p := ((s, [], 0, ()), ())) ⟨0, rfl, Nat.zero_le _⟩ (by unfold FUEL; simp only; omega)
  subst h2
  have h1' : L12_0 ((s, [], 0, ()), ()) = some ((low s, ()), ()) := h1
  simp only [F12, h1', Option.bind_some]

theorem F40_eq {s : List UInt8} (hs : s.length ≤ 500) : F40 ((s, ()), ()) = some (low s, ()) := by
  obtain ⟨r, h1, h2⟩ := loop_ind (f := B40_0) (fun p => ∃ (i : Nat), p = (((), (), (s.length : Int), (i : Int), ()), (low (s.take i) ++ s.drop i, ())) ∧ i ≤ s.length) (fun p => ((s.length : Int) - p.1.2.2.2.1).toNat) (fun r => r = (((), ()), (low s, ())))
    (fun p ⟨i, hp, hi⟩ => by
      subst hp
      by_cases hlt : i < s.length
      · left
        have hll : (low (s.take i)).length = i := by simp [low]; omega
        have c1 : decide ((i : Int) < ((s.length : Nat) : Int)) = true := by simp; omega
        have c2 : decide ((0 : Int) ≤ (i : Int)) = true := by simp
        have c4 : decide ((i : Int) < (((low (s.take i) ++ s.drop i).length : Nat) : Int)) = true := by
          simp only [List.length_append, List.length_drop, hll, decide_eq_true_eq]; omega
        have wi : w64 ((i : Int) + 1) = ((i + 1 : Nat) : Int) := by rw [w64_id (by omega) (by omega)]; rfl
        have hd : s.drop i = s.getD i 0 :: s.drop (i + 1) := by rw [List.drop_eq_getElem_cons hlt, getD_lt hlt]
        have hg : (low (s.take i) ++ s.drop i).getD i 0 = s.getD i 0 := by
          rw [hd]; exact getD_mid hll.symm
        have hset : ∀ x, (low (s.take i) ++ s.drop i).set i x = low (s.take i) ++ x :: s.drop (i + 1) := fun x => by
          rw [hd, List.set_append_right _ _ (by omega), hll, Nat.sub_self]; rfl
        have hls : low (s.take (i + 1)) ++ s.drop (i + 1) = low (s.take i) ++ low1 (s.getD i 0) :: s.drop (i + 1) := by
          rw [take_snoc hlt 0]; simp [low]
        refine ⟨(((), (), (s.length : Int), ((i + 1 : Nat) : Int), ()), (low (s.take (i + 1)) ++ s.drop (i + 1), ())), ?_, ⟨i + 1, rfl, by omega⟩, by simp only; omega⟩
        rw [hls]
        unfold low1
        by_cases hc : 65 ≤ (s.getD i 0).toNat ∧ (s.getD i 0).toNat ≤ 90
        · have c3 : (decide (UInt8.toNat (65 : UInt8) ≤ (s.getD i 0).toNat) && decide ((s.getD i 0).toNat ≤ UInt8.toNat (90 : UInt8))) = true := by
            simpa using hc
          simp only [B40_0, c1, c2, c4, Bool.and_self, cond_true, Option.bind_some, Int.toNat_natCast, hg, c3, wi, if_pos hc, hset]
        · have c3 : (decide (UInt8.toNat (65 : UInt8) ≤ (s.getD i 0).toNat) && decide ((s.getD i 0).toNat ≤ UInt8.toNat (90 : UInt8))) = false := by
            rw [← Bool.decide_and, decide_eq_false_iff_not]; exact hc
          simp only [B40_0, c1, c2, c4, Bool.and_self, cond_true, cond_false, Option.bind_some, Int.toNat_natCast, hg, c3, wi, if_neg hc]
          rw [← hd]
      · right
        have c1 : decide ((i : Int) < ((s.length : Nat) : Int)) = false := by simp; omega
        exact ⟨_, by simp only [B40_0, c1, cond_false] <;> rfl, by rw [List.take_of_length_le (by omega), List.drop_of_length_le (by omega), List.append_nil]⟩)
    (p := (((), (), (s.length : Int), 0, ()), (s, ()))) ⟨0, rfl, Nat.zero_le _⟩ (by unfold FUEL; simp only; omega)
  subst h2
  have h1' : L40_0 (((), (), (s.length : Int), 0, ()), (s, ())) = some (((), ()), (low s, ())) := h1
  simp only [F40, h1', Option.bind_some]

abbrev inbox : List UInt8 := [105, 110, 98, 111, 120]

theorem F25_eq {s : List UInt8} (hs : s.length ≤ 500) : F25 ((s, inbox, ()), ()) = some (decide (low s = inbox), ()) := by
  have h : low inbox = inbox := by decide
  simp only [F25, F40_eq hs, F40_eq (show inbox.length ≤ 500 by simp), Option.bind_some, h]

def In (s : List UInt8) : Prop := 5 ≤ s.length ∧ low (s.take 5) = inbox

/-- What a pattern stands for. -/
def MM (p n : List UInt8) : Prop := (In p ∧ In n ∧ (n.length = 5 ∨ n.getD 5 0 = 47) ∧ Mt (p.drop 5) (n.drop 5)) ∨ (¬ (In p ∧ In n ∧ (n.length = 5 ∨ n.getD 5 0 = 47)) ∧ Mt p n)

theorem mm_pos {p n : List UInt8} (h : In p ∧ In n ∧ (n.length = 5 ∨ n.getD 5 0 = 47)) : MM p n ↔ Mt (p.drop 5) (n.drop 5) :=
  ⟨fun h1 => h1.elim (fun h2 => h2.2.2.2) (fun h2 => absurd h h2.1), fun h1 => .inl ⟨h.1, h.2.1, h.2.2, h1⟩⟩

theorem mm_neg {p n : List UInt8} (h : ¬ (In p ∧ In n ∧ (n.length = 5 ∨ n.getD 5 0 = 47))) : MM p n ↔ Mt p n :=
  ⟨fun h1 => h1.elim (fun h2 => absurd ⟨h2.1, h2.2.1, h2.2.2.1⟩ h) (fun h2 => h2.2), fun h1 => .inr ⟨h, h1⟩⟩

theorem F27_eq {s : List UInt8} (hs : s.length ≤ 500) : ∃ b, F27 ((s, ()), ()) = some (b, ()) ∧ (b = true ↔ In s) := by
  by_cases h5 : 5 ≤ s.length
  · have c1 : decide ((5 : Int) ≤ ((s.length : Nat) : Int)) = true := by simp; omega
    refine ⟨decide (low (s.take 5) = inbox), ?_, ?_⟩
    · simp only [F27, c1, Bool.true_or, cond_true, F12_eq (show (s.take 5).length ≤ 500 by simp; omega), Option.bind_some]
    · simp [In, h5]
  · have c1 : decide ((5 : Int) ≤ ((s.length : Nat) : Int)) = false := by simp; omega
    exact ⟨false, by simp only [F27, c1, Bool.not_false, Bool.or_true, cond_true, cond_false], fun h => (by cases h), fun h => absurd h.1 h5⟩

theorem take_end {s : List UInt8} : List.take ((((s.length : Nat) : Int)).toNat - 5) (s.drop 5) = s.drop 5 := by
  rw [Int.toNat_natCast, List.take_of_length_le (by simp)]

theorem bb {x y : Bool} {p : Prop} (h1 : x = true ↔ p) (h2 : y = true ↔ p) : (x == y) = true := by
  have : x = true ↔ y = true := h1.trans h2.symm
  cases x <;> cases y <;> simp_all

theorem F11_eq {p n : List UInt8} (hp : p.length ≤ 200) (hn : n.length ≤ 200) : ∃ b, F11 ((p, n, ()), ()) = some (b, ()) ∧ (b = true ↔ MM p n) := by
  obtain ⟨bp, e1, e2⟩ := F27_eq (show p.length ≤ 500 by omega)
  obtain ⟨bn, e3, e4⟩ := F27_eq (show n.length ≤ 500 by omega)
  obtain ⟨x, x1, x2⟩ := F28_eq (pat := p) (name := n) hp hn
  obtain ⟨z, z1, z2⟩ := F28_eq (pat := p.drop 5) (name := n.drop 5) (by simp; omega) (by simp; omega)
  cases hbp : bp
  · have hni : ¬ In p := fun h => by have := e2.2 h; rw [hbp] at this; cases this
    refine ⟨x, ?_, x2.trans (mm_neg (fun h => hni h.1)).symm⟩
    simp only [F11, e1, hbp, Option.bind_some, cond_false, x1]
  · have hip : In p := e2.1 hbp
    by_cases hni : In n
    · have hbn : bn = true := e4.2 hni
      have hl := hni.1
      by_cases h47 : n.length = 5 ∨ n.getD 5 0 = 47
      · have c1 : ∀ x, (decide ((5 : Int) < ((n.length : Nat) : Int)) || (decide (((n.length : Nat) : Int) = 5) || x)) = true := fun x => by
          rw [← Bool.or_assoc, Bool.or_eq_true]; left; simp; omega
        have c2 : (decide (((n.length : Nat) : Int) = 5) || decide (n.getD 5 0 = 47)) = true := by
          rw [Bool.or_eq_true, decide_eq_true_eq, decide_eq_true_eq]; exact h47.imp (fun h => by omega) id
        have c3 : decide ((5 : Int) ≤ ((p.length : Nat) : Int)) = true := by have := hip.1; simp; omega
        have c4 : decide ((5 : Int) ≤ ((n.length : Nat) : Int)) = true := by simp; omega
        refine ⟨z, ?_, z2.trans (mm_pos ⟨hip, hni, h47⟩).symm⟩
        simp only [F11, e1, hbp, e3, hbn, Option.bind_some, cond_true, c1, c2, c3, c4, Bool.and_self, Int.le_refl, decide_true, take_end, z1]
      · have c1 : ∀ x, (decide ((5 : Int) < ((n.length : Nat) : Int)) || (decide (((n.length : Nat) : Int) = 5) || x)) = true := fun x => by
          rw [← Bool.or_assoc, Bool.or_eq_true]; left; simp; omega
        have c2 : (decide (((n.length : Nat) : Int) = 5) || decide (n.getD 5 0 = 47)) = false := by
          rw [Bool.or_eq_false_iff, decide_eq_false_iff_not, decide_eq_false_iff_not]; exact ⟨fun h => h47 (.inl (by omega)), fun h => h47 (.inr h)⟩
        refine ⟨x, ?_, x2.trans (mm_neg (fun h => h47 h.2.2)).symm⟩
        simp only [F11, e1, hbp, e3, hbn, Option.bind_some, cond_true, c1, c2, Bool.and_false, cond_false, x1]
    · have hbn : bn = false := by
        cases h : bn
        · rfl
        · exact absurd (e4.1 h) hni
      refine ⟨x, ?_, x2.trans (mm_neg (fun h => hni h.2.1)).symm⟩
      have c1 : ∀ x y : Bool, (x || (y || true)) = true := by decide
      simp only [F11, e1, hbp, e3, hbn, Option.bind_some, cond_true, Bool.not_false, c1, Bool.false_and, cond_false, x1]

theorem F10_eq {p n : List UInt8} (hp : p.length ≤ 200) (hn : n.length ≤ 200) : ∃ b, F10 ((p, n, ()), ()) = some (b, ()) ∧ (b = true ↔ MM p n) := by
  obtain ⟨x, x1, x2⟩ := F26_eq (pat := p) (name := n) hp hn
  obtain ⟨z, z1, z2⟩ := F26_eq (pat := p.drop 5) (name := n.drop 5) (by simp; omega) (by simp; omega)
  by_cases h5 : 5 ≤ p.length ∧ 5 ≤ n.length
  · have c3 : decide ((5 : Int) ≤ ((p.length : Nat) : Int)) = true := by simp; omega
    have c4 : decide ((5 : Int) ≤ ((n.length : Nat) : Int)) = true := by simp; omega
    have f1 := F25_eq (show (p.take 5).length ≤ 500 by simp; omega)
    have f2 := F25_eq (show (n.take 5).length ≤ 500 by simp; omega)
    by_cases hip : low (p.take 5) = inbox
    · have d1 : decide (low (p.take 5) = inbox) = true := by simpa using hip
      by_cases hni : low (n.take 5) = inbox
      · have d2 : decide (low (n.take 5) = inbox) = true := by simpa using hni
        have c1 : ∀ x, (decide ((5 : Int) < ((n.length : Nat) : Int)) || (decide (((n.length : Nat) : Int) = 5) || x)) = true := fun x => by
          rw [← Bool.or_assoc, Bool.or_eq_true]; left; simp; omega
        by_cases h47 : n.length = 5 ∨ n.getD 5 0 = 47
        · have c2 : (decide (((n.length : Nat) : Int) = 5) || decide (n.getD 5 0 = 47)) = true := by
            rw [Bool.or_eq_true, decide_eq_true_eq, decide_eq_true_eq]; exact h47.imp (fun h => by omega) id
          refine ⟨z, ?_, z2.trans (mm_pos ⟨⟨h5.1, hip⟩, ⟨h5.2, hni⟩, h47⟩).symm⟩
          simp only [F10, c3, c4, Bool.true_or, cond_true, Bool.and_self, f1, f2, d1, d2, Option.bind_some, c1, c2, Int.le_refl, decide_true, take_end, z1]
        · have c2 : (decide (((n.length : Nat) : Int) = 5) || decide (n.getD 5 0 = 47)) = false := by
            rw [Bool.or_eq_false_iff, decide_eq_false_iff_not, decide_eq_false_iff_not]; exact ⟨fun h => h47 (.inl (by omega)), fun h => h47 (.inr h)⟩
          refine ⟨x, ?_, x2.trans (mm_neg (fun h => h47 h.2.2)).symm⟩
          simp only [F10, c3, c4, Bool.true_or, cond_true, Bool.and_self, f1, f2, d1, d2, Option.bind_some, c1, c2, Bool.and_false, cond_false, x1]
      · have d2 : decide (low (n.take 5) = inbox) = false := by simpa using hni
        have c1 : ∀ x y : Bool, (x || (y || true)) = true := by decide
        refine ⟨x, ?_, x2.trans (mm_neg (fun h => hni h.2.1.2)).symm⟩
        simp only [F10, c3, c4, Bool.true_or, cond_true, Bool.and_self, f1, f2, d1, d2, Option.bind_some, Bool.not_false, c1, Bool.false_and, cond_false, x1]
    · have d1 : decide (low (p.take 5) = inbox) = false := by simpa using hip
      refine ⟨x, ?_, x2.trans (mm_neg (fun h => hip h.1.2)).symm⟩
      simp only [F10, c3, c4, Bool.true_or, cond_true, Bool.and_self, f1, d1, Option.bind_some, cond_false, x1, Bool.not_false, Bool.or_true]
  · have c0 : (decide ((5 : Int) ≤ ((p.length : Nat) : Int)) && decide ((5 : Int) ≤ ((n.length : Nat) : Int))) = false := by
      rw [← Bool.decide_and, decide_eq_false_iff_not]; omega
    refine ⟨x, ?_, x2.trans (mm_neg (fun h => h5 ⟨h.1.1, h.2.1.1⟩)).symm⟩
    simp only [F10, c0, Bool.not_false, Bool.or_true, cond_true, cond_false, x1, Option.bind_some]

/-- GlobMatches is true. -/
theorem law3 (p n : List UInt8) : F3 ((p, n, ()), ()) = some (true, ()) := by
  obtain ⟨p', h1, hp⟩ := F8_eq p
  obtain ⟨n', h2, hn⟩ := F8_eq n
  obtain ⟨x, x1, x2⟩ := F10_eq hp hn
  obtain ⟨z, z1, z2⟩ := F11_eq hp hn
  simp only [F3, h1, h2, live9, x1, z1, Option.bind_some, cond_true, bb x2 z2]

end Go.Gl
