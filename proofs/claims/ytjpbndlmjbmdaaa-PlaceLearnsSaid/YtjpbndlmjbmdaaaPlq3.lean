/- PlaceHashes and PlaceLearns. -/
import Derived.Test.YtjpbndlmjbmdaaaPlq2
namespace Go.Pl
open Go Go.Ev
set_option maxRecDepth 100000

theorem F16_right {n : Int} (h : rightN n = true) : F16 ((n, ()), ()) = some ((true, 0, ()), ((n, (), ()), [], ())) := by
  simp only [rightN] at h
  simp only [F16, h, Bool.not_true, cond_false]
theorem F16_wrong {n : Int} (h : rightN n = false) : F16 ((n, ()), ()) = some ((false, 2, ()), ((0, (), ()), [], ())) := by
  simp only [rightN] at h
  simp only [F16, h, Bool.not_false, cond_true]
theorem F24_right {n : Int} (h : rightN n = true) : F24 ((n, ()), ()) = some ((true, 0, ()), ((n, (), ()), [], ())) := by
  simp only [rightN, Bool.and_eq_true, decide_eq_true_eq] at h
  simp only [F24, decide_eq_false (show ¬ n < 1 by omega), decide_eq_false (show ¬ 4 < n by omega), Bool.or_self, cond_false]
theorem F24_wrong {n : Int} (h : rightN n = false) : F24 ((n, ()), ()) = some ((false, 2, ()), ((0, (), ()), [], ())) := by
  have hc : (decide (n < 1) || decide (4 < n)) = true := by
    simp only [rightN, Bool.and_eq_false_iff, decide_eq_false_iff_not] at h
    simp only [Bool.or_eq_true, decide_eq_true_eq]
    omega
  simp only [F24, hc, cond_true]

theorem hash_nil : hash [] = 2166136261 := rfl
theorem hash_a : hash [97] = 3826002220 := by decide

theorem live_eq : F10 ((), ()) = some (true, ()) := by
  have hm : maxLen = 9223372036854775807 := rfl
  have hr : rightN 3 = true := by decide
  have e1 : learnL 3 [] ([117], 2, 5, ()) = (0, [([117], 2, 5, ())]) := by decide
  have hL := Rel.nil.learn 3 ([117], 2, 5, ()) (by decide)
  have e3 : seatL 3 [([117], 2, 5, ())] [117] = ([117], 2, 5, ()) := by decide
  rw [e1] at hL
  have q1 := F17_eq Rel.nil 3 ([117], 2, 5, ()) (by decide)
  rw [e1] at q1
  have q2 := F14_eq hL 3 [117] (by decide)
  rw [e3] at q2
  have q3 := F19_eq hL 3 (by decide)
  simp only [F10, F16_right hr, Option.bind_some, q1, q2, F11_eq [] (by decide), F11_eq [97] (by decide), hash_nil, hash_a, q3]
  rfl

theorem law3 (u : Tx) (n : Int) (hu : u.length ≤ maxLen) : F3 ((u, n, ()), ()) = some (true, ()) := by
  simp only [F3, F8_eq u n hu, F9_eq u n hu, F11_eq u hu, F12_eq u hu, live_eq, Option.bind_some, decide_true, Bool.and_self, cond_true]

/-- Seats that are learnt, one behind the other. -/
def playL (n : Int) (l : List Seat) : List Seat := l.foldl (fun L s => (learnL n L s).2) []

def stepP (n : Int) (b : List Ent × List Seat) (s : Seat) : List Ent × List Seat := (learnM n b.1 b.2 s, (learnL n b.2 s).2)

theorem stepP_snd (n : Int) : ∀ (l : List Seat) (b : List Ent × List Seat), (l.foldl (stepP n) b).2 = l.foldl (fun L s => (learnL n L s).2) b.2
  | [], _ => rfl
  | a :: t, b => by simp only [List.foldl_cons]; rw [stepP_snd n t]; rfl

theorem stepP_rel (n : Int) : ∀ (l : List Seat) (b : List Ent × List Seat), (∀ s ∈ l, s.1.length ≤ maxLen) → Rel b.1 b.2 → Rel (l.foldl (stepP n) b).1 (l.foldl (stepP n) b).2
  | [], _, _, h => h
  | a :: t, b, hl, h => by
    simp only [List.foldl_cons]
    exact stepP_rel n t _ (fun s hs => hl s (by simp [hs])) (h.learn n a (hl a (by simp)))

theorem stepP_len (n : Int) : ∀ (l : List Seat) (b : List Ent × List Seat), (l.foldl (stepP n) b).2.length ≤ b.2.length + l.length
  | [], _ => by simp
  | a :: t, b => by
    simp only [List.foldl_cons, List.length_cons]
    have := stepP_len n t (stepP n b a)
    have h2 : (stepP n b a).2.length ≤ b.2.length + 1 := learn_len n b.2 a
    omega

theorem take_lt {α : Type} (l : List α) (n i : Nat) : i < (l.take n).length ↔ i < l.length ∧ i < n := by simp only [List.length_take]; omega

theorem F13_right {n : Int} (h : rightN n = true) (l : List Seat) (hl : l.length ≤ maxLen) (hu : ∀ s ∈ l, s.1.length ≤ maxLen) :
    ∃ M, Rel M (playL n (l.take 150)) ∧ (playL n (l.take 150)).length ≤ 150 ∧ F13 ((n, l, ()), ()) = some ((true, true, true, ()), ((n, (), ()), (n, playL n (l.take 150), ()), M, ())) := by
  have hm : maxLen = 9223372036854775807 := rfl
  have hut : ∀ s ∈ l.take 150, s.1.length ≤ maxLen := fun s hs => hu s (List.mem_of_mem_take hs)
  have hR := stepP_rel n (l.take 150) ([], []) hut Rel.nil
  have hlen := stepP_len n (l.take 150) ([], [])
  have hlt : (l.take 150).length ≤ 150 := by simp only [List.length_take]; omega
  have hsnd := stepP_snd n (l.take 150) ([], [])
  have hlen' : ((l.take 150).foldl (stepP n) ([], [])).2.length ≤ 150 := by simp only [List.length_nil] at hlen; omega
  refine ⟨((l.take 150).foldl (stepP n) ([], [])).1, by rw [show playL n (l.take 150) = _ from hsnd.symm]; exact hR, by rw [show playL n (l.take 150) = _ from hsnd.symm]; exact hlen', ?_⟩
  have hw := walk_listI (f := B13_0) (fun (b : List Ent × List Seat) i => ((l, true, true, (i : Int), ()), ((n, (), ()), (n, b.2, ()), b.1, ()))) (l.take 150) (fun s b => .inl (stepP n b s)) (fun b => Sum.inl ((true, true, ()), ((n, (), ()), (n, b.2, ()), b.1, ())))
    (fun b i => Rel b.1 b.2 ∧ b.2.length ≤ i) (fun b i a hI hi ha => .inl ⟨_, rfl, ⟨hI.1.learn n a (hu a (by
      have := ha a
      rw [List.getD_eq_getElem?_getD, List.getElem?_eq_getElem hi, Option.getD_some] at this
      rw [← this]
      exact List.mem_of_mem_take (List.getElem_mem hi))), by have := learn_len n b.2 a; have := hI.2; show (learnL n b.2 a).2.length ≤ _; omega⟩, by
      obtain ⟨hR, hb⟩ := hI
      have hi2 := (take_lt l 150 i).1 hi
      have hal : ∀ d, l.getD i d = a := fun d => by
        have := ha d
        rw [List.getD_eq_getElem?_getD, List.getElem?_take_of_lt hi2.2] at this
        rw [List.getD_eq_getElem?_getD]
        exact this
      have hau : a.1.length ≤ maxLen := hu a (by
        have := hal a
        rw [List.getD_eq_getElem?_getD, List.getElem?_eq_getElem hi2.1, Option.getD_some] at this
        rw [← this]
        exact List.getElem_mem _)
      have h150 : decide ((i : Int) < 150) = true := by simp; omega
      simp only [B13_0, nat_lt, nat_nn, decide_eq_true hi2.1, h150, Bool.not_true, Bool.not_false, Bool.and_self, cond_true, cond_false, Int.toNat_natCast, hal]
      rw [seat_eta, F17_eq hR n a hau]
      simp only [Option.bind_some]
      rw [F22_eq n hR.srt a (by omega) hau]
      simp only [Option.bind_some, decide_true, Bool.not_true, cond_false]
      rw [w64_nat (by omega)]
      rfl⟩) (fun b hI => by
      have h1 : (decide (((l.take 150).length : Int) < ((List.length l : Nat) : Int)) && decide (((l.take 150).length : Int) < 150)) = false := by
        simp only [List.length_take, Bool.and_eq_false_iff, decide_eq_false_iff_not]
        omega
      simp only [B13_0, Bool.not_true, Bool.not_false, Bool.true_and, h1, cond_false]) (by unfold FUEL; omega) (b := ([], [])) ⟨Rel.nil, by simp⟩
  simp only [F13, F16_right h, F24_right h, Option.bind_some, decide_true, Bool.not_true, Bool.false_or, L13_0]
  rw [show ((!(false == false)) : Bool) = false from rfl]
  simp only [cond_false]
  erw [hw]
  rw [foldS_foldl]
  simp only [Option.bind_some, Bool.true_or, cond_true, Bool.not_true, Bool.not_false, agr_self]
  rw [F19_eq hR n (by omega)]
  simp only [Option.bind_some]
  rw [F18_eq _ _ (by omega)]
  simp only [Option.bind_some, decide_true]
  rw [hsnd]
  rfl

theorem F13_wrong {n : Int} (h : rightN n = false) (l : List Seat) : F13 ((n, l, ()), ()) = some ((false, false, true, ()), ((0, (), ()), (0, [], ()), [], ())) := by
  have hw : loopOf B13_0 ((l, false, false, 0, ()), ((0, (), ()), (0, [], ()), [], ())) = some (Sum.inl ((false, false, ()), ((0, (), ()), (0, [], ()), [], ()))) := by
    have : ∀ n : Nat, iter B13_0 (n + 1) ((l, false, false, 0, ()), ((0, (), ()), (0, [], ()), [], ())) = some (Sum.inl ((false, false, ()), ((0, (), ()), (0, [], ()), [], ()))) := fun n => rfl
    exact this 9223372036854775807
  simp only [F13, F16_wrong h, F24_wrong h, Option.bind_some, decide_true, Bool.not_true, Bool.false_or, L13_0]
  rw [show ((!((!false) == (!false))) : Bool) = false from rfl]
  simp only [Bool.not_false, cond_false]
  erw [hw]
  simp only [Option.bind_some, Bool.not_false, Bool.or_true, cond_true, Bool.not_true, cond_false, agr_self]

theorem law4 (n : Int) (l : List Seat) (u : Tx) (hl : l.length ≤ maxLen) (hu : ∀ s ∈ l, s.1.length ≤ maxLen) (hv : u.length ≤ maxLen) : F4 ((n, l, u, ()), ()) = some (true, ()) := by
  cases h : rightN n with
  | true =>
    obtain ⟨M, hR, hlen, hF⟩ := F13_right h l hl hu
    simp only [F4, hF, Option.bind_some, Bool.not_true, cond_false, F14_eq hR n u hv, F15_eq n hR.srt u (by omega) hv, live_eq, decide_true, Bool.and_self]
  | false =>
    simp only [F4, F13_wrong h l, Option.bind_some, Bool.not_true, cond_false, F14_nil, live_eq]
    rfl
end Go.Pl
