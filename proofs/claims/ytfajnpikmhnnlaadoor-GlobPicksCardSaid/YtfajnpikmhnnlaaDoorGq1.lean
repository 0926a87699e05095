/- Names under names. -/
import Derived.Test.YtfajnpikmhnnlaaDoorGl1
namespace Go.Gl
open Go Go.Ev
set_option maxRecDepth 100000

theorem fits_true {n : Nat} (h : n ≤ 100000) : fits n = true := by
  unfold fits
  simp
  omega

/-- a name lies under another one -/
def under (n r : List UInt8) : Bool := !decide (r = []) && decide (List.take (r.length + 1) n = r ++ [47])

theorem under_iff {n r : List UInt8} : under n r = true ↔ r ≠ [] ∧ ∃ s, n = r ++ 47 :: s := by
  unfold under
  simp only [Bool.and_eq_true, Bool.not_eq_true', decide_eq_false_iff_not, decide_eq_true_eq]
  refine and_congr_right fun _ => ⟨fun h => ⟨n.drop (r.length + 1), ?_⟩, fun ⟨s, h⟩ => ?_⟩
  · have := List.take_append_drop (r.length + 1) n
    rw [h] at this
    rw [← this]
    simp
  · subst h
    rw [show r ++ 47 :: s = (r ++ [47]) ++ s by simp, List.take_append_of_le_length (by simp), List.take_of_length_le (by simp)]

theorem F16_eq {n r : List UInt8} (hr : r.length ≤ 50000) : F16 ((n, r, ()), ()) = some (under n r, ()) := by
  by_cases h0 : r = []
  · subst h0
    rfl
  · have hd : decide (r = []) = false := by simpa using h0
    have hf : fits (List.length r + List.length ([47] : List UInt8)) = true := fits_true (by simp; omega)
    simp only [F16, hd, hf, Bool.true_or, cond_true, Bool.not_false, F30, F42]
    have hl : (List.length (r ++ ([47] : List UInt8))) = r.length + 1 := by simp
    rw [hl]
    have hc : ((decide ((0 : Int) ≤ ((r.length + 1 : Nat) : Int)) && decide (((r.length + 1 : Nat) : Int) ≤ ((n.length : Nat) : Int))) || !decide (((r.length + 1 : Nat) : Int) ≤ ((n.length : Nat) : Int))) = true := by
      have : decide ((0 : Int) ≤ ((r.length + 1 : Nat) : Int)) = true := by simp; omega
      rw [this]
      cases decide (((r.length + 1 : Nat) : Int) ≤ ((n.length : Nat) : Int)) <;> rfl
    rw [hc]
    simp only [cond_true, Option.bind_some, under, hd, Bool.not_false, Bool.true_and, Int.toNat_natCast]
    congr 2
    by_cases hle : r.length + 1 ≤ n.length
    · have : decide (((r.length + 1 : Nat) : Int) ≤ ((n.length : Nat) : Int)) = true := by simp; omega
      rw [this, Bool.true_and]
    · have h1 : decide (((r.length + 1 : Nat) : Int) ≤ ((n.length : Nat) : Int)) = false := by simp; omega
      rw [h1, Bool.false_and]
      symm
      simp only [decide_eq_false_iff_not]
      intro he
      have := congrArg List.length he
      simp at this
      omega

theorem F17_eq {n r : List UInt8} : F17 ((n, r, ()), ()) = some (under n r, ()) := by
  have key : ∀ b : Bool, (b = true ↔ (r ≠ [] ∧ ∃ s, n = r ++ 47 :: s)) → b = under n r := fun b hb => by
    rw [Bool.eq_iff_iff, hb, under_iff]
  by_cases hlt : r.length < n.length
  · have e1 : decide (((r.length : Nat) : Int) < ((n.length : Nat) : Int)) = true := by simp; omega
    have e2 : decide (((r.length : Nat) : Int) ≤ ((n.length : Nat) : Int)) = true := by simp; omega
    have e3 : decide ((0 : Int) ≤ ((r.length : Nat) : Int)) = true := by simp
    simp only [F17, e1, e2, e3, Bool.and_true, Bool.true_or, cond_true, Int.toNat_natCast]
    congr 2
    refine key _ ?_
    simp only [Bool.and_eq_true, decide_eq_true_eq]
    constructor
    · rintro ⟨⟨h1, h2⟩, h3⟩
      refine ⟨fun h => by subst h; simp at h1, n.drop (r.length + 1), ?_⟩
      have := List.take_append_drop r.length n
      rw [h2] at this
      rw [List.getD_eq_getElem?_getD, List.getElem?_eq_getElem hlt, Option.getD_some] at h3
      rw [← h3, ← List.drop_eq_getElem_cons hlt, this]
    · rintro ⟨h1, s, rfl⟩
      refine ⟨⟨?_, by simp⟩, by simp⟩
      have : 0 < r.length := List.length_pos_iff.2 h1
      omega
  · have e1 : decide (((r.length : Nat) : Int) < ((n.length : Nat) : Int)) = false := by simp; omega
    simp only [F17, e1, Bool.and_false, Bool.false_and, Bool.not_false, Bool.or_true, cond_true]
    congr 2
    refine key _ ⟨fun h => by simp at h, fun ⟨_, s, h⟩ => ?_⟩
    subst h
    simp at hlt

/-- A name, moved. -/
def moved (n f t : List UInt8) : (List UInt8 × Bool × Unit) × Unit :=
  if n = f ∨ under n f = true then ((t ++ n.drop f.length, true, ()), ()) else (([], false, ()), ())

theorem tail_eq {n f t : List UInt8} (h : n = f ∨ under n f = true) (hn : n.length ≤ 1000) (ht : t.length ≤ 1000) :
    (cond ((decide ((0 : Int) ≤ ((f.length : Nat) : Int)) && decide (((f.length : Nat) : Int) ≤ ((n.length : Nat) : Int))) && decide (((n.length : Nat) : Int) ≤ ((n.length : Nat) : Int)))
      (cond (fits (List.length t + List.length (List.take (Int.toNat ((n.length : Nat) : Int) - Int.toNat ((f.length : Nat) : Int)) (List.drop (Int.toNat ((f.length : Nat) : Int)) n))))
        (some ((t ++ List.take (Int.toNat ((n.length : Nat) : Int) - Int.toNat ((f.length : Nat) : Int)) (List.drop (Int.toNat ((f.length : Nat) : Int)) n), true, ()), ())) none) none : Option ((List UInt8 × Bool × Unit) × Unit)) =
      some ((t ++ n.drop f.length, true, ()), ()) := by
  have hle : f.length ≤ n.length := by
    rcases h with h | h
    · rw [h]; exact Nat.le_refl _
    · obtain ⟨_, s, rfl⟩ := under_iff.1 h
      simp
  have e1 : (decide ((0 : Int) ≤ ((f.length : Nat) : Int)) && decide (((f.length : Nat) : Int) ≤ ((n.length : Nat) : Int)) && decide (((n.length : Nat) : Int) ≤ ((n.length : Nat) : Int))) = true := by
    simp; omega
  rw [e1, cond_true]
  simp only [Int.toNat_natCast]
  rw [List.take_of_length_le (by simp), fits_true (by simp; omega), cond_true]

theorem F18_eq {n f t : List UInt8} (hn : n.length ≤ 1000) (hf : f.length ≤ 1000) (ht : t.length ≤ 1000) : F18 ((n, f, t, ()), ()) = some (moved n f t) := by
  simp only [F18, F16_eq (show f.length ≤ 50000 by omega), Option.bind_some]
  unfold moved
  by_cases he : n = f
  · have hd : decide (n = f) = true := by simpa using he
    rw [if_pos (.inl he), hd, Bool.not_true, cond_false]
    exact tail_eq (.inl he) hn ht
  · have hd : decide (n = f) = false := by simpa using he
    rw [hd, Bool.not_false, cond_true]
    cases hu : under n f with
    | true =>
      rw [if_pos (.inr rfl), cond_true]
      exact tail_eq (.inr hu) hn ht
    | false => rw [if_neg (by simp [he]), cond_false]

theorem F19_eq {n f t : List UInt8} (hn : n.length ≤ 1000) (ht : t.length ≤ 1000) : F19 ((n, f, t, ()), ()) = some (moved n f t) := by
  simp only [F19, F17_eq, Option.bind_some]
  unfold moved
  by_cases he : n = f
  · have hd : decide (n = f) = true := by simpa using he
    rw [if_pos (.inl he), hd, Bool.not_true, cond_false]
    exact tail_eq (.inl he) hn ht
  · have hd : decide (n = f) = false := by simpa using he
    rw [hd, Bool.not_false, cond_true]
    cases hu : under n f with
    | true =>
      rw [if_pos (.inr rfl), cond_true]
      exact tail_eq (.inr hu) hn ht
    | false => rw [if_neg (by simp [he]), cond_false]

theorem F8_eq (s : List UInt8) : ∃ l, F8 ((s, ()), ()) = some (l, ()) ∧ l.length ≤ 200 := by
  by_cases h : 200 < s.length
  · have e1 : decide ((200 : Int) < ((s.length : Nat) : Int)) = true := by simp; omega
    have e2 : decide ((200 : Int) ≤ ((s.length : Nat) : Int)) = true := by simp; omega
    exact ⟨List.take 200 s, by simp only [F8, e1, e2, cond_true], by simp; omega⟩
  · have e1 : decide ((200 : Int) < ((s.length : Nat) : Int)) = false := by simp; omega
    exact ⟨s, by simp only [F8, e1, cond_false], by omega⟩

theorem live9 : F9 ((), ()) = some (true, ()) := by kernel_rfl

/-- GlobMoves is true. -/
theorem law6 (n f t : List UInt8) : F6 ((n, f, t, ()), ()) = some (true, ()) := by
  obtain ⟨n', h1, hn⟩ := F8_eq n
  obtain ⟨f', h2, hf⟩ := F8_eq f
  obtain ⟨t', h3, ht⟩ := F8_eq t
  simp only [F6, h1, h2, h3, Option.bind_some, F18_eq (show n'.length ≤ 1000 by omega) (show f'.length ≤ 1000 by omega) (show t'.length ≤ 1000 by omega), F19_eq (show n'.length ≤ 1000 by omega) (show t'.length ≤ 1000 by omega)]
  simp only [decide_true, beq_self_eq_true, Bool.not_true, Bool.or_self, cond_false]
  by_cases hm : n' = f' ∨ under n' f' = true
  · have hmv : moved n' f' t' = ((t' ++ n'.drop f'.length, true, ()), ()) := if_pos hm
    rw [hmv]
    simp only [Bool.not_true, cond_false]
    have hal : (t' ++ n'.drop f'.length).length ≤ 1000 := by simp; omega
    rw [F18_eq hal (show t'.length ≤ 1000 by omega) (show f'.length ≤ 1000 by omega)]
    simp only [Option.bind_some, live9]
    by_cases hc : (!decide (n' = f') && decide (t' = [])) = true
    · rw [hc, cond_true]
    · have hc' : (!decide (n' = f') && decide (t' = [])) = false := by simpa using hc
      rw [hc', cond_false]
      have hback : (t' ++ n'.drop f'.length = t' ∨ under (t' ++ n'.drop f'.length) t' = true) := by
        rcases hm with hm | hm
        · left; rw [hm]; simp
        · obtain ⟨hf0, s, hs⟩ := under_iff.1 hm
          right
          refine under_iff.2 ⟨?_, s, ?_⟩
          · intro ht0
            have hne : n' ≠ f' := fun h => by
              have := congrArg List.length h
              rw [hs] at this
              simp at this
            simp [hne, ht0] at hc'
          · rw [hs]; simp
      have hmb : moved (t' ++ n'.drop f'.length) t' f' = ((f' ++ (t' ++ n'.drop f'.length).drop t'.length, true, ()), ()) := if_pos hback
      have hn2 : f' ++ (t' ++ n'.drop f'.length).drop t'.length = n' := by
        rw [List.drop_left]
        rcases hm with hm | hm
        · rw [hm]; simp
        · obtain ⟨_, s, hs⟩ := under_iff.1 hm
          rw [hs]; simp
      rw [hmb]
      simp only [hn2, decide_true, Bool.and_self, cond_true]
      by_cases he : n' = f'
      · have hd : decide (n' = f') = true := by simpa using he
        rw [hd]; rfl
      · have hd : decide (n' = f') = false := by simpa using he
        rw [hd, Bool.not_false, cond_true, F16_eq (show t'.length ≤ 50000 by omega)]
        have hu : under (t' ++ n'.drop f'.length) t' = true := by
          rcases hback with hb | hb
          · exfalso
            have hlen := congrArg List.length hb
            simp at hlen
            rcases hm with hm | hm
            · exact he hm
            · obtain ⟨_, s, hs⟩ := under_iff.1 hm
              rw [hs] at hlen
              simp at hlen
          · exact hb
        rw [hu]; rfl
  · have hmv : moved n' f' t' = (([], false, ()), ()) := if_neg hm
    rw [hmv]
    simp only [Bool.not_false, cond_true, live9, Option.bind_some, decide_true, Bool.and_self]

end Go.Gl

namespace Go.Gl
open Go Go.Ev
set_option maxRecDepth 100000

def parts (cur : List UInt8) : List UInt8 → List (List UInt8)
  | [] => [cur]
  | b :: r => if b = 47 then cur :: parts [] r else parts (cur ++ [b]) r

theorem w64_id {n : Int} (h1 : -9223372036854775808 ≤ n) (h2 : n ≤ 9223372036854775807) : w64 n = n := by
  unfold w64 IntKind.wrap
  simp only [IntKind.bits, IntKind.signed]
  by_cases h : n % 2 ^ 64 ≥ 2 ^ 63
  · simp; omega
  · simp; omega

theorem bytes_true {n b : Nat} (h : n * b ≤ 1000000) : bytesOK n b = true := by
  unfold bytesOK
  simp
  omega

/-- The reference's steps. -/
theorem F15_eq {s : List UInt8} (hs : s.length ≤ 1000) (h0 : s ≠ []) : F15 ((s, ()), ()) = some ((), (parts [] s, ())) := by
  have hne : decide (((s.length : Nat) : Int) = 0) = false := by
    have : 0 < s.length := List.length_pos_iff.2 h0
    simp; exact h0
  obtain ⟨r, e1, e2⟩ := loop_ind (f := B15_0) (fun p => ∃ (fr i : Nat) (out : List (List UInt8)), p = ((s, (), (fr : Int), (i : Int), ()), (out, ())) ∧ fr ≤ i ∧
      ((i ≤ s.length ∧ out.length ≤ i ∧ out ++ parts (List.take (i - fr) (List.drop fr s)) (List.drop i s) = parts [] s) ∨ (i = s.length + 1 ∧ out = parts [] s)))
    (fun p => (s.length + 1 - p.1.2.2.2.1).toNat) (fun r => r = (((), ()), (parts [] s, ())))
    (fun p ⟨fr, i, out, hp, hfr, hI⟩ => by
      subst hp
      rcases hI with ⟨hi, hol, hinv⟩ | ⟨hi, hout⟩
      · left
        have c1 : decide ((i : Int) ≤ ((s.length : Nat) : Int)) = true := by simp; omega
        have c2 : (decide ((0 : Int) ≤ (i : Int)) && decide ((i : Int) < ((s.length : Nat) : Int)) || decide ((i : Int) = ((s.length : Nat) : Int))) = true := by
          simp; omega
        by_cases hcut : i = s.length ∨ s.getD i 0 = 47
        · have c3 : (decide ((i : Int) = ((s.length : Nat) : Int)) || decide (List.getD s (Int.toNat (i : Int)) 0 = 47)) = true := by
            simp only [Int.toNat_natCast, Bool.or_eq_true, decide_eq_true_eq]
            exact hcut.imp (fun h => by omega) id
          have c4 : decide ((0 : Int) ≤ (fr : Int)) = true := by simp
          have c6 : decide ((fr : Int) ≤ (i : Int)) = true := by simp; omega
          refine ⟨((s, (), ((i + 1 : Nat) : Int), ((i + 1 : Nat) : Int), ()), (out ++ [List.take (i - fr) (List.drop fr s)], ())), ?_, ⟨i + 1, i + 1, _, rfl, Nat.le_refl _, ?_⟩, ?_⟩
          · have c5 : bytesOK (List.length out + List.length [List.take (Int.toNat (i : Int) - Int.toNat (fr : Int)) (List.drop (Int.toNat (fr : Int)) s)]) 16 = true := bytes_true (by simp; omega)
            simp only [B15_0, c1, c2, c3, c4, c6, c5, Bool.and_self, cond_true, Option.bind_some]
            rw [w64_id (n := (i : Int) + 1) (by omega) (by omega)]
            rfl
          · rcases Nat.lt_or_ge i s.length with hlt | hge
            · left
              have hb : s.getD i 0 = 47 := hcut.resolve_left (by omega)
              rw [List.getD_eq_getElem?_getD, List.getElem?_eq_getElem hlt, Option.getD_some] at hb
              rw [List.drop_eq_getElem_cons hlt, hb] at hinv
              simp only [parts, if_true] at hinv
              refine ⟨by omega, by simp; omega, ?_⟩
              rw [Nat.sub_self, List.take_zero, List.append_assoc]
              exact hinv
            · right
              have hie : i = s.length := by omega
              refine ⟨by omega, ?_⟩
              rw [List.drop_of_length_le hge] at hinv
              simpa [parts] using hinv
          · simp only; omega
        · have hlt : i < s.length := by omega
          have hb : ¬ s.getD i 0 = 47 := fun h => hcut (.inr h)
          have c3 : (decide ((i : Int) = ((s.length : Nat) : Int)) || decide (List.getD s (Int.toNat (i : Int)) 0 = 47)) = false := by
            simp only [Int.toNat_natCast, Bool.or_eq_false_iff, decide_eq_false_iff_not]
            exact ⟨by omega, hb⟩
          refine ⟨((s, (), (fr : Int), ((i + 1 : Nat) : Int), ()), (out, ())), ?_, ⟨fr, i + 1, out, rfl, by omega, .inl ⟨by omega, by omega, ?_⟩⟩, ?_⟩
          · simp only [B15_0, c1, c2, c3, cond_true, cond_false, Option.bind_some]
            rw [w64_id (n := (i : Int) + 1) (by omega) (by omega)]
            rfl
          · rw [List.getD_eq_getElem?_getD, List.getElem?_eq_getElem hlt, Option.getD_some] at hb
            rw [List.drop_eq_getElem_cons hlt] at hinv
            simp only [parts, if_neg hb] at hinv
            rw [← hinv]
            congr 2
            rw [show i + 1 - fr = (i - fr) + 1 by omega, List.take_add_one, List.getElem?_drop, show fr + (i - fr) = i by omega, List.getElem?_eq_getElem hlt]
            rfl
          · simp only; omega
      · right
        have c1 : decide ((i : Int) ≤ ((s.length : Nat) : Int)) = false := by simp; omega
        exact ⟨_, by simp only [B15_0, c1, cond_false] <;> rfl, by rw [hout]⟩)
    (p := ((s, (), 0, 0, ()), ([], ()))) ⟨0, 0, [], rfl, Nat.le_refl _, .inl ⟨Nat.zero_le _, Nat.le_refl _, by simp⟩⟩ (by unfold FUEL; simp only; omega)
  rw [e2] at e1
  simp only [F15, hne, cond_false]
  show (Option.bind (Option.bind (loopOf B15_0 _) _) _) = _
  rw [e1]
  rfl

end Go.Gl

namespace Go.Gl
open Go Go.Ev
set_option maxRecDepth 100000

theorem idx : ∀ s : List UInt8, (Lib.indexByte s 47 = -1 ∧ (∀ cur, parts cur s = [cur ++ s]) ∧ s.count 47 = 0) ∨
    ∃ m : Nat, m < s.length ∧ Lib.indexByte s 47 = m ∧ (∀ cur, parts cur s = (cur ++ s.take m) :: parts [] (s.drop (m + 1))) ∧ s.count 47 = (s.drop (m + 1)).count 47 + 1
  | [] => .inl ⟨rfl, fun cur => by simp [parts], rfl⟩
  | b :: l => by
    by_cases hb : b = 47
    · subst hb
      exact .inr ⟨0, by simp, by simp [Lib.indexByte], fun cur => by simp [parts], by simp⟩
    · have hbb : (b == 47) = false := by simpa using hb
      rcases idx l with ⟨h1, h2, h3⟩ | ⟨m, h0, h1, h2, h3⟩
      · refine .inl ⟨by simp [Lib.indexByte, hbb, h1], fun cur => ?_, ?_⟩
        · simp only [parts, if_neg hb, h2]; simp
        · rw [List.count_cons_of_ne hb, h3]
      · refine .inr ⟨m + 1, by simp; omega, ?_, fun cur => ?_, ?_⟩
        · have : ¬ ((m : Int) == -1) = true := by simp
          simp only [Lib.indexByte, hbb, h1]
          simp
        · simp only [parts, if_neg hb, h2]; simp
        · rw [List.count_cons_of_ne hb, h3]; simp

theorem F52_eq (s : List UInt8) : F52 ((s, (), ()), ()) = some (Lib.indexByte s 47, ()) := by
  by_cases h : ([47] : List UInt8) = s
  · subst h; rfl
  · have hd : decide (([47] : List UInt8) = s) = false := by simpa using h
    simp only [F52, F69, F79, hd, Bool.or_self, cond_false, Option.bind_some]
    rfl

theorem set_take {α : Type} {a : List α} {i : Nat} {x : α} (h : i < a.length) : (a.set i x).take (i + 1) = a.take i ++ [x] := by
  rw [List.take_add_one, List.take_set_of_le (Nat.le_refl i), List.getElem?_set_self h]
  rfl

theorem F41_eq {name : List UInt8} (hn : name.length ≤ 1000) : F41 ((name, (), (), (), ()), ()) = some (parts [] name, ()) := by
  have hcl : name.count 47 ≤ name.length := List.count_le_length
  generalize hcn : name.count 47 = n at hcl
  obtain ⟨r, e1, i, s', a, e2, hin, hal, hinv, hcs⟩ := loop_ind (f := B41_0) (fun p => ∃ (i : Nat) (s' : List UInt8) (a : List (List UInt8)), p = ((s', (), (), (n : Int), (), (i : Int), ()), (a, ())) ∧ i + s'.count 47 = n ∧ a.length = n + 1 ∧ s'.length ≤ 1000 ∧
      a.take i ++ parts [] s' = parts [] name)
    (fun p => ((n : Int) - p.1.2.2.2.2.2.1).toNat) (fun r => ∃ (i : Nat) (s' : List UInt8) (a : List (List UInt8)), r = ((s', (), (i : Int), ()), (a, ())) ∧ i = n ∧ a.length = n + 1 ∧ a.take i ++ parts [] s' = parts [] name ∧ s'.count 47 = 0)
    (fun p ⟨i, s', a, hp, hc, hal, hsl, hinv⟩ => by
      subst hp
      by_cases hlt : i < n
      · left
        have c1 : decide ((i : Int) < (n : Int)) = true := by simp; omega
        rcases idx s' with ⟨_, _, h3⟩ | ⟨m, h0, h1, h2, h3⟩
        · omega
        · have c2 : decide ((m : Int) < 0) = false := by simp
          have c3 : decide ((0 : Int) ≤ (m : Int)) = true := by simp
          have c4 : decide ((m : Int) ≤ ((s'.length : Nat) : Int)) = true := by simp; omega
          have c5 : decide ((0 : Int) ≤ (i : Int)) = true := by simp
          have c6 : decide ((i : Int) < ((a.length : Nat) : Int)) = true := by simp; omega
          have c7 : decide ((0 : Int) ≤ (m : Int) + 1) = true := by simp; omega
          have c8 : decide ((m : Int) + 1 ≤ ((s'.length : Nat) : Int)) = true := by simp; omega
          refine ⟨((s'.drop (m + 1), (), (), (n : Int), (), ((i + 1 : Nat) : Int), ()), (a.set i (s'.take m), ())), ?_, ⟨i + 1, _, _, rfl, by omega, by simp [hal], by simp; omega, ?_⟩, ?_⟩
          · simp only [B41_0, c1, cond_true, F52_eq, Option.bind_some, h1, c2, cond_false, Int.add_zero]
            rw [w64_id (n := (m : Int)) (by omega) (by omega)]
            simp only [c3, c4, c5, c6, Bool.and_self, cond_true, Option.bind_some]
            rw [w64_id (n := (m : Int) + 1) (by omega) (by omega)]
            simp only [c7, c8, Bool.and_self, cond_true, Option.bind_some, decide_true, Int.le_refl, Int.toNat_natCast]
            rw [w64_id (n := (i : Int) + 1) (by omega) (by omega)]
            have ht : ((m : Int) + 1).toNat = m + 1 := by omega
            rw [ht, List.take_of_length_le (by simp)]
            rfl
          · rw [set_take (by omega), List.append_assoc]
            rw [h2] at hinv
            simpa using hinv
          · simp only; omega
      · right
        have hie : i = n := by omega
        have c1 : decide ((i : Int) < (n : Int)) = false := by simp; omega
        exact ⟨_, by simp only [B41_0, c1, cond_false] <;> rfl, i, s', a, rfl, hie, hal, hinv, by omega⟩)
    (p := ((name, (), (), (n : Int), (), 0, ()), (List.replicate (n + 1) [], ()))) ⟨0, name, _, rfl, by omega, by simp, hn, by simp⟩ (by unfold FUEL; simp only; omega)
  subst e2
  have hps : parts [] s' = [s'] := by
    rcases idx s' with ⟨_, h2, _⟩ | ⟨m, _, _, _, h3⟩
    · simpa using h2 []
    · omega
  have e0 : F51 ((name, (), ()), ()) = some ((n : Int), ()) := by
    simp only [F51]
    rw [← hcn]
    rfl
  simp only [F41, e0, Option.bind_some]
  have w1 : w64 ((n : Int) + 1) = ((n + 1 : Nat) : Int) := by rw [w64_id (by omega) (by omega)]; rfl
  have w2 : w64 (((name.length : Nat) : Int) + 1) = ((name.length + 1 : Nat) : Int) := by rw [w64_id (by omega) (by omega)]; rfl
  rw [w1, w2]
  have c1 : decide (((name.length + 1 : Nat) : Int) < ((n + 1 : Nat) : Int)) = false := by simp; omega
  rw [c1, cond_false]
  have c2 : decide ((0 : Int) ≤ ((n + 1 : Nat) : Int)) = true := by simp; omega
  have c3 : bytesOK (Int.toNat ((n + 1 : Nat) : Int)) 16 = true := bytes_true (by rw [Int.toNat_natCast]; omega)
  rw [c2, c3]
  simp only [Int.le_refl, decide_true, Bool.and_self, cond_true, Option.bind_some, Int.toNat_natCast]
  have w3 : w64 (((n + 1 : Nat) : Int) - 1) = (n : Int) := by rw [w64_id (by omega) (by omega)]; omega
  rw [w3]
  have e1' : L41_0 ((name, (), (), (n : Int), (), 0, ()), (List.replicate (n + 1) [], ())) = some ((s', (), (i : Int), ()), (a, ())) := e1
  rw [e1']
  simp only [Option.bind_some]
  have c4 : decide ((0 : Int) ≤ (i : Int)) = true := by simp
  have c5 : decide ((i : Int) < ((a.length : Nat) : Int)) = true := by simp; omega
  have w4 : w64 ((i : Int) + 1) = ((i + 1 : Nat) : Int) := by rw [w64_id (by omega) (by omega)]; rfl
  rw [c4, c5, w4]
  have c6 : decide ((0 : Int) ≤ ((i + 1 : Nat) : Int)) = true := by simp; omega
  have c7 : decide (((i + 1 : Nat) : Int) ≤ ((List.length (List.set a (Int.toNat (i : Int)) s') : Nat) : Int)) = true := by simp; omega
  rw [c6, c7]
  simp only [Bool.and_self, cond_true, Int.toNat_natCast]
  rw [set_take (by omega), ← hinv, hps]

end Go.Gl

namespace Go.Gl
open Go Go.Ev
set_option maxRecDepth 100000

theorem F13_eq {l : List (List UInt8)} (hl : l.length ≤ 100000) : F13 ((l, l, ()), ()) = some (true, ()) := by
  obtain ⟨r, e1, e2⟩ := loop_ind (f := B13_0) (fun p => ∃ i : Nat, i ≤ l.length ∧ p = ((l, l, (i : Int), ()), ())) (fun p => ((l.length : Int) - p.1.2.2.1).toNat) (fun r => r = Sum.inl ((), ()))
    (fun p ⟨i, hi, hp⟩ => by
      subst hp
      by_cases hlt : i < l.length
      · left
        have c1 : decide ((i : Int) < ((l.length : Nat) : Int)) = true := by simp; omega
        have c2 : decide ((0 : Int) ≤ (i : Int)) = true := by simp
        refine ⟨((l, l, ((i + 1 : Nat) : Int), ()), ()), ?_, ⟨i + 1, by omega, rfl⟩, ?_⟩
        · simp only [B13_0, c1, c2, Bool.and_self, cond_true, decide_true, Bool.not_true, cond_false]
          rw [w64_id (n := (i : Int) + 1) (by omega) (by omega)]
          rfl
        · simp only; omega
      · right
        have c1 : decide ((i : Int) < ((l.length : Nat) : Int)) = false := by simp; omega
        exact ⟨_, by simp only [B13_0, c1, cond_false] <;> rfl, rfl⟩)
    (p := ((l, l, 0, ()), ())) ⟨0, Nat.zero_le _, rfl⟩ (by unfold FUEL; simp only; omega)
  subst e2
  have e1' : L13_0 ((l, l, 0, ()), ()) = some (Sum.inl ((), ())) := e1
  simp only [F13, decide_true, Bool.not_true, cond_false]
  rw [e1']
  rfl

theorem parts_len : ∀ (s cur : List UInt8), (parts cur s).length ≤ s.length + 1
  | [], _ => by simp [parts]
  | b :: s, cur => by
    simp only [parts]
    split
    · have := parts_len s []
      simp; omega
    · have := parts_len s (cur ++ [b])
      simp; omega

/-- GlobSteps is true. -/
theorem law5 (n r : List UInt8) : F5 ((n, r, ()), ()) = some (true, ()) := by
  obtain ⟨n', h1, hn⟩ := F8_eq n
  obtain ⟨r', h2, hr⟩ := F8_eq r
  have steps : ∃ l, l.length ≤ 100000 ∧ F14 ((n', ()), ()) = some (l, ()) ∧ F15 ((n', ()), ()) = some ((), (l, ())) := by
    by_cases h0 : n' = []
    · subst h0
      exact ⟨[], by simp, rfl, rfl⟩
    · have hd : decide (n' = []) = false := by simpa using h0
      refine ⟨parts [] n', by have := parts_len n' []; omega, ?_, F15_eq (by omega) h0⟩
      simp only [F14, hd, cond_false, F29, F41_eq (show n'.length ≤ 1000 by omega), Option.bind_some]
  obtain ⟨l, hl, e1, e2⟩ := steps
  simp only [F5, h1, h2, live9, e1, e2, F13_eq hl, F16_eq (show r'.length ≤ 50000 by omega), F17_eq, Option.bind_some, cond_true, beq_self_eq_true]

end Go.Gl
