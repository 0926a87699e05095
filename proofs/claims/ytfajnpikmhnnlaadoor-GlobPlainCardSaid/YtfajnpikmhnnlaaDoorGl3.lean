/- A name's steps. -/
import Derived.Test.YtfajnpikmhnnlaaDoorGl2
namespace Go.Gl
open Go Go.Ev
set_option maxRecDepth 100000

def parts (cur : List UInt8) : List UInt8 → List (List UInt8)
  | [] => [cur]
  | b :: r => if b = 47 then cur :: parts [] r else parts (cur ++ [b]) r

theorem w64_id {n : Int} (h1 : -9223372036854775808 ≤ n) (h2 : n ≤ 9223372036854775807) : w64 n = n := by
  unfold w64 IntKind.wrap
  simp only [IntKind.bits, IntKind.signed]
  by_cases h : n % 2 ^ 64 ≥ 2 ^ 63
  · simp; omega
  · simp; omega

theorem bytes_true {n b : Nat} (h : n * b ≤ 1000000) : bytesOK n b = true := by
  unfold bytesOK
  simp
  omega

/-- The reference's steps. -/
theorem F15_eq {s : List UInt8} (hs : s.length ≤ 1000) (h0 : s ≠ []) : F15 ((s, ()), ()) = some ((), (parts [] s, ())) := by
  have hne : decide (((s.length : Nat) : Int) = 0) = false := by
    have : 0 < s.length := List.length_pos_iff.2 h0
    simp; exact h0
  obtain ⟨r, e1, e2⟩ := loop_ind (f := B15_0) (fun p => ∃ (fr i : Nat) (out : List (List UInt8)), p = ((s, (), (fr : Int), (i : Int), ()), (out, ())) ∧ fr ≤ i ∧
      ((i ≤ s.length ∧ out.length ≤ i ∧ out ++ parts (List.take (i - fr) (List.drop fr s)) (List.drop i s) = parts [] s) ∨ (i = s.length + 1 ∧ out = parts [] s)))
    (fun p => (s.length + 1 - p.1.2.2.2.1).toNat) (fun r => r = (((), ()), (parts [] s, ())))
    (fun p ⟨fr, i, out, hp, hfr, hI⟩ => by
      subst hp
      rcases hI with ⟨hi, hol, hinv⟩ | ⟨hi, hout⟩
      · left
        have c1 : decide ((i : Int) ≤ ((s.length : Nat) : Int)) = true := by simp; omega
        have c2 : (decide ((0 : Int) ≤ (i : Int)) && decide ((i : Int) < ((s.length : Nat) : Int)) || decide ((i : Int) = ((s.length : Nat) : Int))) = true := by
          simp; omega
        by_cases hcut : i = s.length ∨ s.getD i 0 = 47
        · have c3 : (decide ((i : Int) = ((s.length : Nat) : Int)) || decide (List.getD s (Int.toNat (i : Int)) 0 = 47)) = true := by
            simp only [Int.toNat_natCast, Bool.or_eq_true, decide_eq_true_eq]
            exact hcut.imp (fun h => by omega) id
          have c4 : decide ((0 : Int) ≤ (fr : Int)) = true := by simp
          have c6 : decide ((fr : Int) ≤ (i : Int)) = true := by simp; omega
          refine ⟨((s, (), ((i + 1 : Nat) : Int), ((i + 1 : Nat) : Int), ()), (out ++ [List.take (i - fr) (List.drop fr s)], ())), ?_, ⟨i + 1, i + 1, _, rfl, Nat.le_refl _, ?_⟩, ?_⟩
          · have c5 : bytesOK (List.length out + List.length [List.take (Int.toNat (i : Int) - Int.toNat (fr : Int)) (List.drop (Int.toNat (fr : Int)) s)]) 16 = true := bytes_true (by simp; omega)
            simp only [B15_0, c1, c2, c3, c4, c6, c5, Bool.and_self, cond_true, Option.bind_some]
            rw [w64_id (n := (i : Int) + 1) (by omega) (by omega)]
            rfl
          · rcases Nat.lt_or_ge i s.length with hlt | hge
            · left
              have hb : s.getD i 0 = 47 := hcut.resolve_left (by omega)
              rw [List.getD_eq_getElem?_getD, List.getElem?_eq_getElem hlt, Option.getD_some] at hb
              rw [List.drop_eq_getElem_cons hlt, hb] at hinv
              simp only [parts, if_true] at hinv
              refine ⟨by omega, by simp; omega, ?_⟩
              rw [Nat.sub_self, List.take_zero, List.append_assoc]
              exact hinv
            · right
              have hie : i = s.length := by omega
              refine ⟨by omega, ?_⟩
              rw [List.drop_of_length_le hge] at hinv
              simpa [parts] using hinv
          · simp only; omega
        · have hlt : i < s.length := by omega
          have hb : ¬ s.getD i 0 = 47 := fun h => hcut (.inr h)
          have c3 : (decide ((i : Int) = ((s.length : Nat) : Int)) || decide (List.getD s (Int.toNat (i : Int)) 0 = 47)) = false := by
            simp only [Int.toNat_natCast, Bool.or_eq_false_iff, decide_eq_false_iff_not]
            exact ⟨by omega, hb⟩
          refine ⟨((s, (), (fr : Int), ((i + 1 : Nat) : Int), ()), (out, ())), ?_, ⟨fr, i + 1, out, rfl, by omega, .inl ⟨by omega, by omega, ?_⟩⟩, ?_⟩
          · simp only [B15_0, c1, c2, c3, cond_true, cond_false, Option.bind_some]
            rw [w64_id (n := (i : Int) + 1) (by omega) (by omega)]
            rfl
          · rw [List.getD_eq_getElem?_getD, List.getElem?_eq_getElem hlt, Option.getD_some] at hb
            rw [List.drop_eq_getElem_cons hlt] at hinv
            simp only [parts, if_neg hb] at hinv
            rw [← hinv]
            congr 2
            rw [show i + 1 - fr = (i - fr) + 1 by omega, List.take_add_one, List.getElem?_drop, show fr + (i - fr) = i by omega, List.getElem?_eq_getElem hlt]
            rfl
          · simp only; omega
      · right
        have c1 : decide ((i : Int) ≤ ((s.length : Nat) : Int)) = false := by simp; omega
        exact ⟨_, by simp only [B15_0, c1, cond_false] <;> rfl, by rw [hout]⟩)
    (p := ((s, (), 0, 0, ()), ([], ()))) ⟨0, 0, [], rfl, Nat.le_refl _, .inl ⟨Nat.zero_le _, Nat.le_refl _, by simp⟩⟩ (by unfold FUEL; simp only; omega)
  rw [e2] at e1
  simp only [F15, hne, cond_false]
  show (Option.bind (Option.bind (loopOf B15_0 _) _) _) = _
  rw [e1]
  rfl

end Go.Gl
