/- A name's steps, by strings.Split. -/
import Derived.Test.YtfajnpikmhnnlaaDoorGl3
namespace Go.Gl
open Go Go.Ev
set_option maxRecDepth 100000

theorem idx : ∀ s : List UInt8, (Lib.indexByte s 47 = -1 ∧ (∀ cur, parts cur s = [cur ++ s]) ∧ s.count 47 = 0) ∨
    ∃ m : Nat, m < s.length ∧ Lib.indexByte s 47 = m ∧ (∀ cur, parts cur s = (cur ++ s.take m) :: parts [] (s.drop (m + 1))) ∧ s.count 47 = (s.drop (m + 1)).count 47 + 1
  | [] => .inl ⟨rfl, fun cur => by simp [parts], rfl⟩
  | b :: l => by
    by_cases hb : b = 47
    · subst hb
      exact .inr ⟨0, by simp, by simp [Lib.indexByte], fun cur => by simp [parts], by simp⟩
    · have hbb : (b == 47) = false := by simpa using hb
      rcases idx l with ⟨h1, h2, h3⟩ | ⟨m, h0, h1, h2, h3⟩
      · refine .inl ⟨by simp [Lib.indexByte, hbb, h1], fun cur => ?_, ?_⟩
        · simp only [parts, if_neg hb, h2]; simp
        · rw [List.count_cons_of_ne hb, h3]
      · refine .inr ⟨m + 1, by simp; omega, ?_, fun cur => ?_, ?_⟩
        · have : ¬ ((m : Int) == -1) = true := by simp
          simp only [Lib.indexByte, hbb, h1]
          simp
        · simp only [parts, if_neg hb, h2]; simp
        · rw [List.count_cons_of_ne hb, h3]; simp

theorem F52_eq (s : List UInt8) : F52 ((s, (), ()), ()) = some (Lib.indexByte s 47, ()) := by
  by_cases h : ([47] : List UInt8) = s
  · subst h; rfl
  · have hd : decide (([47] : List UInt8) = s) = false := by simpa using h
    simp only [F52, F69, F79, hd, Bool.or_self, cond_false, Option.bind_some]
    rfl

theorem set_take {α : Type} {a : List α} {i : Nat} {x : α} (h : i < a.length) : (a.set i x).take (i + 1) = a.take i ++ [x] := by
  rw [List.take_add_one, List.take_set_of_le (Nat.le_refl i), List.getElem?_set_self h]
  rfl

theorem F41_eq {name : List UInt8} (hn : name.length ≤ 1000) : F41 ((name, (), (), (), ()), ()) = some (parts [] name, ()) := by
  have hcl : name.count 47 ≤ name.length := List.count_le_length
  generalize hcn : name.count 47 = n at hcl
  obtain ⟨r, e1, i, s', a, e2, hin, hal, hinv, hcs⟩ := loop_ind (f := B41_0) (fun p => ∃ (i : Nat) (s' : List UInt8) (a : List (List UInt8)), p = ((s', (), (), (n : Int), (), (i : Int), ()), (a, ())) ∧ i + s'.count 47 = n ∧ a.length = n + 1 ∧ s'.length ≤ 1000 ∧
      a.take i ++ parts [] s' = parts [] name)
    (fun p => ((n : Int) - p.1.2.2.2.2.2.1).toNat) (fun r => ∃ (i : Nat) (s' : List UInt8) (a : List (List UInt8)), r = ((s', (), (i : Int), ()), (a, ())) ∧ i = n ∧ a.length = n + 1 ∧ a.take i ++ parts [] s' = parts [] name ∧ s'.count 47 = 0)
    (fun p ⟨i, s', a, hp, hc, hal, hsl, hinv⟩ => by
      subst hp
      by_cases hlt : i < n
      · left
        have c1 : decide ((i : Int) < (n : Int)) = true := by simp; omega
        rcases idx s' with ⟨_, _, h3⟩ | ⟨m, h0, h1, h2, h3⟩
        · omega
        · have c2 : decide ((m : Int) < 0) = false := by simp
          have c3 : decide ((0 : Int) ≤ (m : Int)) = true := by simp
          have c4 : decide ((m : Int) ≤ ((s'.length : Nat) : Int)) = true := by simp; omega
          have c5 : decide ((0 : Int) ≤ (i : Int)) = true := by simp
          have c6 : decide ((i : Int) < ((a.length : Nat) : Int)) = true := by simp; omega
          have c7 : decide ((0 : Int) ≤ (m : Int) + 1) = true := by simp; omega
          have c8 : decide ((m : Int) + 1 ≤ ((s'.length : Nat) : Int)) = true := by simp; omega
          refine ⟨((s'.drop (m + 1), (), (), (n : Int), (), ((i + 1 : Nat) : Int), ()), (a.set i (s'.take m), ())), ?_, ⟨i + 1, _, _, rfl, by omega, by simp [hal], by simp; omega, ?_⟩, ?_⟩
          · simp only [B41_0, c1, cond_true, F52_eq, Option.bind_some, h1, c2, cond_false, Int.add_zero]
            rw [w64_id (n := (m : Int)) (by omega) (by omega)]
            simp only [c3, c4, c5, c6, Bool.and_self, cond_true, Option.bind_some]
            rw [w64_id (n := (m : Int) + 1) (by omega) (by omega)]
            simp only [c7, c8, Bool.and_self, cond_true, Option.bind_some, decide_true, Int.le_refl, Int.toNat_natCast]
            rw [w64_id (n := (i : Int) + 1) (by omega) (by omega)]
            have ht : ((m : Int) + 1).toNat = m + 1 := by omega
            rw [ht, List.take_of_length_le (by simp)]
            rfl
          · rw [set_take (by omega), List.append_assoc]
            rw [h2] at hinv
            simpa using hinv
          · simp only; omega
      · right
        have hie : i = n := by omega
        have c1 : decide ((i : Int) < (n : Int)) = false := by simp; omega
        exact ⟨_, by simp only [B41_0, c1, cond_false] <;> rfl, i, s', a, rfl, hie, hal, hinv, by omega⟩)
    (p := ((name, (), (), (n : Int), (), 0, ()), (List.replicate (n + 1) [], ()))) ⟨0, name, _, rfl, by omega, by simp, hn, by simp⟩ (by unfold FUEL; simp only; omega)
  subst e2
  have hps : parts [] s' = [s'] := by
    rcases idx s' with ⟨_, h2, _⟩ | ⟨m, _, _, _, h3⟩
    · simpa using h2 []
    · omega
  have e0 : F51 ((name, (), ()), ()) = some ((n : Int), ()) := by
    simp only [F51]
    rw [← hcn]
    rfl
  simp only [F41, e0, Option.bind_some]
  have w1 : w64 ((n : Int) + 1) = ((n + 1 : Nat) : Int) := by rw [w64_id (by omega) (by omega)]; rfl
  have w2 : w64 (((name.length : Nat) : Int) + 1) = ((name.length + 1 : Nat) : Int) := by rw [w64_id (by omega) (by omega)]; rfl
  rw [w1, w2]
  have c1 : decide (((name.length + 1 : Nat) : Int) < ((n + 1 : Nat) : Int)) = false := by simp; omega
  rw [c1, cond_false]
  have c2 : decide ((0 : Int) ≤ ((n + 1 : Nat) : Int)) = true := by simp; omega
  have c3 : bytesOK (Int.toNat ((n + 1 : Nat) : Int)) 16 = true := bytes_true (by rw [Int.toNat_natCast]; omega)
  rw [c2, c3]
  simp only [Int.le_refl, decide_true, Bool.and_self, cond_true, Option.bind_some, Int.toNat_natCast]
  have w3 : w64 (((n + 1 : Nat) : Int) - 1) = (n : Int) := by rw [w64_id (by omega) (by omega)]; omega
  rw [w3]
  have e1' : L41_0 ((name, (), (), (n : Int), (), 0, ()), (List.replicate (n + 1) [], ())) = some ((s', (), (i : Int), ()), (a, ())) := e1
  rw [e1']
  simp only [Option.bind_some]
  have c4 : decide ((0 : Int) ≤ (i : Int)) = true := by simp
  have c5 : decide ((i : Int) < ((a.length : Nat) : Int)) = true := by simp; omega
  have w4 : w64 ((i : Int) + 1) = ((i + 1 : Nat) : Int) := by rw [w64_id (by omega) (by omega)]; rfl
  rw [c4, c5, w4]
  have c6 : decide ((0 : Int) ≤ ((i + 1 : Nat) : Int)) = true := by simp; omega
  have c7 : decide (((i + 1 : Nat) : Int) ≤ ((List.length (List.set a (Int.toNat (i : Int)) s') : Nat) : Int)) = true := by simp; omega
  rw [c6, c7]
  simp only [Bool.and_self, cond_true, Int.toNat_natCast]
  rw [set_take (by omega), ← hinv, hps]

end Go.Gl
