/- PlaceHashes and PlaceLearns. -/
import Derived.Test.YtjpbndlmjbmdaaaPlq2
namespace Go.Pl
open Go Go.Ev
set_option maxRecDepth 100000

theorem F16_right {n : Int} (h : rightN n = true) : F16 ((n, ()), ()) = some ((true, 0, ()), ((n, (), ()), [], ())) := by
  simp only [rightN] at h
  simp only [F16, h, Bool.not_true, cond_false]
theorem F16_wrong {n : Int} (h : rightN n = false) : F16 ((n, ()), ()) = some ((false, 2, ()), ((0, (), ()), [], ())) := by
  simp only [rightN] at h
  simp only [F16, h, Bool.not_false, cond_true]
theorem F24_right {n : Int} (h : rightN n = true) : F24 ((n, ()), ()) = some ((true, 0, ()), ((n, (), ()), [], ())) := by
  simp only [rightN, Bool.and_eq_true, decide_eq_true_eq] at h
  simp only [F24, decide_eq_false (show ¬ n < 1 by omega), decide_eq_false (show ¬ 4 < n by omega), Bool.or_self, cond_false]
theorem F24_wrong {n : Int} (h : rightN n = false) : F24 ((n, ()), ()) = some ((false, 2, ()), ((0, (), ()), [], ())) := by
  have hc : (decide (n < 1) || decide (4 < n)) = true := by
    simp only [rightN, Bool.and_eq_false_iff, decide_eq_false_iff_not] at h
    simp only [Bool.or_eq_true, decide_eq_true_eq]
    omega
  simp only [F24, hc, cond_true]

theorem hash_nil : hash [] = 2166136261 := rfl
theorem hash_a : hash [97] = 3826002220 := by decide

theorem live_eq : F10 ((), ()) = some (true, ()) := by
  have hm : maxLen = 9223372036854775807 := rfl
  have hr : rightN 3 = true := by decide
  have e1 : learnL 3 [] ([117], 2, 5, ()) = (0, [([117], 2, 5, ())]) := by decide
  have hL := Rel.nil.learn 3 ([117], 2, 5, ()) (by decide)
  have e3 : seatL 3 [([117], 2, 5, ())] [117] = ([117], 2, 5, ()) := by decide
  rw [e1] at hL
  have q1 := F17_eq Rel.nil 3 ([117], 2, 5, ()) (by decide)
  rw [e1] at q1
  have q2 := F14_eq hL 3 [117] (by decide)
  rw [e3] at q2
  have q3 := F19_eq hL 3 (by decide)
  simp only [F10, F16_right hr, Option.bind_some, q1, q2, F11_eq [] (by decide), F11_eq [97] (by decide), hash_nil, hash_a, q3]
  rfl

theorem law3 (u : Tx) (n : Int) (hu : u.length ≤ maxLen) : F3 ((u, n, ()), ()) = some (true, ()) := by
  simp only [F3, F8_eq u n hu, F9_eq u n hu, F11_eq u hu, F12_eq u hu, live_eq, Option.bind_some, decide_true, Bool.and_self, cond_true]

/-- Seats that are learnt, one behind the other. -/
def playL (n : Int) (l : List Seat) : List Seat := l.foldl (fun L s => (learnL n L s).2) []

def stepP (n : Int) (b : List Ent × List Seat) (s : Seat) : List Ent × List Seat := (learnM n b.1 b.2 s, (learnL n b.2 s).2)

theorem stepP_snd (n : Int) : ∀ (l : List Seat) (b : List Ent × List Seat), (l.foldl (stepP n) b).2 = l.foldl (fun L s => (learnL n L s).2) b.2
  | [], _ => rfl
  | a :: t, b => by simp only [List.foldl_cons]; rw [stepP_snd n t]; rfl

theorem stepP_rel (n : Int) : ∀ (l : List Seat) (b : List Ent × List Seat), (∀ s ∈ l, s.1.length ≤ maxLen) → Rel b.1 b.2 → Rel (l.foldl (stepP n) b).1 (l.foldl (stepP n) b).2
  | [], _, _, h => h
  | a :: t, b, hl, h => by
    simp only [List.foldl_cons]
    exact stepP_rel n t _ (fun s hs => hl s (by simp [hs])) (h.learn n a (hl a (by simp)))

theorem stepP_len (n : Int) : ∀ (l : List Seat) (b : List Ent × List Seat), (l.foldl (stepP n) b).2.length ≤ b.2.length + l.length
  | [], _ => by simp
  | a :: t, b => by
    simp only [List.foldl_cons, List.length_cons]
    have := stepP_len n t (stepP n b a)
    have h2 : (stepP n b a).2.length ≤ b.2.length + 1 := learn_len n b.2 a
    omega

theorem take_lt {α : Type} (l : List α) (n i : Nat) : i < (l.take n).length ↔ i < l.length ∧ i < n := by simp only [List.length_take]; omega

theorem F13_right {n : Int} (h : rightN n = true) (l : List Seat) (hl : l.length ≤ maxLen) (hu : ∀ s ∈ l, s.1.length ≤ maxLen) :
    ∃ M, Rel M (playL n (l.take 150)) ∧ (playL n (l.take 150)).length ≤ 150 ∧ F13 ((n, l, ()), ()) = some ((true, true, true, ()), ((n, (), ()), (n, playL n (l.take 150), ()), M, ())) := by
  have hm : maxLen = 9223372036854775807 := rfl
  have hut : ∀ s ∈ l.take 150, s.1.length ≤ maxLen := fun s hs => hu s (List.mem_of_mem_take hs)
  have hR := stepP_rel n (l.take 150) ([], []) hut Rel.nil
  have hlen := stepP_len n (l.take 150) ([], [])
  have hlt : (l.take 150).length ≤ 150 := by simp only [List.length_take]; omega
  have hsnd := stepP_snd n (l.take 150) ([], [])
  have hlen' : ((l.take 150).foldl (stepP n) ([], [])).2.length ≤ 150 := by simp only [List.length_nil] at hlen; omega
  refine ⟨((l.take 150).foldl (stepP n) ([], [])).1, by rw [show playL n (l.take 150) = _ from hsnd.symm]; exact hR, by rw [show playL n (l.take 150) = _ from hsnd.symm]; exact hlen', ?_⟩
  have hw := walk_listI (f := B13_0) (fun (b : List Ent × List Seat) i => ((l, true, true, (i : Int), ()), ((n, (), ()), (n, b.2, ()), b.1, ()))) (l.take 150) (fun s b => .inl (stepP n b s)) (fun b => Sum.inl ((true, true, ()), ((n, (), ()), (n, b.2, ()), b.1, ())))
    (fun b i => Rel b.1 b.2 ∧ b.2.length ≤ i) (fun b i a hI hi ha => .inl ⟨_, rfl, ⟨hI.1.learn n a (hu a (by
      have := ha a
      rw [List.getD_eq_getElem?_getD, List.getElem?_eq_getElem hi, Option.getD_some] at this
      rw [← this]
      exact List.mem_of_mem_take (List.getElem_mem hi))), by have := learn_len n b.2 a; have := hI.2; show (learnL n b.2 a).2.length ≤ _; omega⟩, by
      obtain ⟨hR, hb⟩ := hI
      have hi2 := (take_lt l 150 i).1 hi
      have hal : ∀ d, l.getD i d = a := fun d => by
        have := ha d
        rw [List.getD_eq_getElem?_getD, List.getElem?_take_of_lt hi2.2] at this
        rw [List.getD_eq_getElem?_getD]
        exact this
      have hau : a.1.length ≤ maxLen := hu a (by
        have := hal a
        rw [List.getD_eq_getElem?_getD, List.getElem?_eq_getElem hi2.1, Option.getD_some] at this
        rw [← this]
        exact List.getElem_mem _)
      have h150 : decide ((i : Int) < 150) = true := by simp; omega
      simp only [B13_0, nat_lt, nat_nn, decide_eq_true hi2.1, h150, Bool.not_true, Bool.not_false, Bool.and_self, cond_true, cond_false, Int.toNat_natCast, hal]
      rw [seat_eta, F17_eq hR n a hau]
      simp only [Option.bind_some]
      rw [F22_eq n hR.srt a (by omega) hau]
      simp only [Option.bind_some, decide_true, Bool.not_true, cond_false]
      rw [w64_nat (by omega)]
      rfl⟩) (fun b hI => by
      have h1 : (decide (((l.take 150).length : Int) < ((List.length l : Nat) : Int)) && decide (((l.take 150).length : Int) < 150)) = false := by
        simp only [List.length_take, Bool.and_eq_false_iff, decide_eq_false_iff_not]
        omega
      simp only [B13_0, Bool.not_true, Bool.not_false, Bool.true_and, h1, cond_false]) (by unfold FUEL; omega) (b := ([], [])) ⟨Rel.nil, by simp⟩
  simp only [F13, F16_right h, F24_right h, Option.bind_some, decide_true, Bool.not_true, Bool.false_or, L13_0]
  rw [show ((!(false == false)) : Bool) = false from rfl]
  simp only [cond_false]
  erw [hw]
  rw [foldS_foldl]
  simp only [Option.bind_some, Bool.true_or, cond_true, Bool.not_true, Bool.not_false, agr_self]
  rw [F19_eq hR n (by omega)]
  simp only [Option.bind_some]
  rw [F18_eq _ _ (by omega)]
  simp only [Option.bind_some, decide_true]
  rw [hsnd]
  rfl

theorem F13_wrong {n : Int} (h : rightN n = false) (l : List Seat) : F13 ((n, l, ()), ()) = some ((false, false, true, ()), ((0, (), ()), (0, [], ()), [], ())) := by
  have hw : loopOf B13_0 ((l, false, false, 0, ()), ((0, (), ()), (0, [], ()), [], ())) = some (Sum.inl ((false, false, ()), ((0, (), ()), (0, [], ()), [], ()))) := by
    have : ∀ n : Nat, iter B13_0 (n + 1) ((l, false, false, 0, ()), ((0, (), ()), (0, [], ()), [], ())) = some (Sum.inl ((false, false, ()), ((0, (), ()), (0, [], ()), [], ()))) := fun n => rfl
    exact this 9223372036854775807
  simp only [F13, F16_wrong h, F24_wrong h, Option.bind_some, decide_true, Bool.not_true, Bool.false_or, L13_0]
  rw [show ((!((!false) == (!false))) : Bool) = false from rfl]
  simp only [Bool.not_false, cond_false]
  erw [hw]
  simp only [Option.bind_some, Bool.not_false, Bool.or_true, cond_true, Bool.not_true, cond_false, agr_self]

theorem law4 (n : Int) (l : List Seat) (u : Tx) (hl : l.length ≤ maxLen) (hu : ∀ s ∈ l, s.1.length ≤ maxLen) (hv : u.length ≤ maxLen) : F4 ((n, l, u, ()), ()) = some (true, ()) := by
  cases h : rightN n with
  | true =>
    obtain ⟨M, hR, hlen, hF⟩ := F13_right h l hl hu
    simp only [F4, hF, Option.bind_some, Bool.not_true, cond_false, F14_eq hR n u hv, F15_eq n hR.srt u (by omega) hv, live_eq, decide_true, Bool.and_self]
  | false =>
    simp only [F4, F13_wrong h l, Option.bind_some, Bool.not_true, cond_false, F14_nil, live_eq]
    rfl
end Go.Pl

namespace Go.Pl
open Go Go.Ev
set_option maxRecDepth 100000

theorem learn_cases (n : Int) (L : List Seat) (s : Seat) :
    ((learnL n L s).1 = 0 ∧ (learnL n L s).2 = putL L s ∧ (seatL n L s.1).2.2.1 < s.2.2.1 ∧ 0 ≤ s.2.1 ∧ s.2.1 < n ∧ 1 ≤ s.2.2.1) ∨
    ((learnL n L s).1 ≠ 0 ∧ (learnL n L s).2 = L ∧ ((s.2.1 < 0 ∨ n ≤ s.2.1 ∨ s.2.2.1 < 1) ∨ s.2.2.1 ≤ (seatL n L s.1).2.2.1 ∨ 64 ≤ L.length)) := by
  unfold learnL
  cases h1 : (decide (s.2.1 < 0) || decide (n ≤ s.2.1) || decide (s.2.2.1 < 1)) with
  | true =>
    simp only [Bool.or_eq_true, decide_eq_true_eq] at h1
    refine .inr ⟨by simp, by simp, .inl ?_⟩
    rcases h1 with (h | h) | h
    · exact .inl h
    · exact .inr (.inl h)
    · exact .inr (.inr h)
  | false =>
    simp only [Bool.or_eq_false_iff, decide_eq_false_iff_not] at h1
    cases h2 : decide (s.2.2.1 ≤ (seatL n L s.1).2.2.1) with
    | true => exact .inr ⟨by simp, by simp, .inr (.inl (of_decide_eq_true h2))⟩
    | false =>
      have h2 := of_decide_eq_false h2
      cases h3 : (!(getL L s.1).isSome && decide (64 ≤ L.length)) with
      | true =>
        simp only [Bool.and_eq_true, decide_eq_true_eq] at h3
        exact .inr ⟨by simp, by simp, .inr (.inr h3.2)⟩
      | false => exact .inl ⟨by simp, by simp, Int.not_le.1 h2, Int.not_lt.1 h1.1.1, Int.not_le.1 h1.1.2, Int.not_lt.1 h1.2⟩

theorem seat_put (n : Int) {L : List Seat} (h : Srt L) (s : Seat) : seatL n (putL L s) s.1 = s := by
  unfold seatL
  rw [(getL_iff (srt_putL h)).2 ⟨(mem_putL h s).2 (.inl rfl), rfl⟩]
  rfl

theorem foldS_inl {α β τ : Type} (g : β → α → β) (fin : β → τ) (l : List α) (b : β) : foldS (fun a b => .inl (g b a)) fin b l = fin (l.foldl g b) := foldS_foldl g fin l b

theorem n_of (x : UInt8) : ∃ n : Int, w64 (1 + Int.tmod ((x.toNat : Nat) : Int) 4) = n ∧ rightN n = true := by
  refine ⟨_, rfl, ?_⟩
  rw [Int.tmod_eq_emod_of_nonneg (by omega), w64_id (by omega) (by omega)]
  simp only [rightN, Bool.and_eq_true, decide_eq_true_eq]
  omega

theorem law6 (x : UInt8) (l : List Seat) (hl : l.length ≤ maxLen) (hu : ∀ s ∈ l, s.1.length ≤ maxLen) : F6 ((x, l, ()), ()) = some (true, ()) := by
  have hm : maxLen = 9223372036854775807 := rfl
  obtain ⟨n, hn, hr⟩ := n_of x
  have hw := walk_listI (f := B6_0) (fun (b : List Ent × List Seat) i => ((l, true, (i : Int), ()), ((n, (), ()), b.1, ()))) (l.take 100) (fun s b => .inl (stepP n b s)) (fun _ => Sum.inl ((), ()))
    (fun b i => Rel b.1 b.2 ∧ b.2.length ≤ i) (fun b i a hI hi ha => .inl ⟨_, rfl, ⟨hI.1.learn n a (hu a (by
      have := ha a
      rw [List.getD_eq_getElem?_getD, List.getElem?_eq_getElem hi, Option.getD_some] at this
      rw [← this]
      exact List.mem_of_mem_take (List.getElem_mem hi))), by have := learn_len n b.2 a; have := hI.2; show (learnL n b.2 a).2.length ≤ _; omega⟩, by
      obtain ⟨hR, hb⟩ := hI
      have hi2 := (take_lt l 100 i).1 hi
      have hal : ∀ d, l.getD i d = a := fun d => by
        have := ha d
        rw [List.getD_eq_getElem?_getD, List.getElem?_take_of_lt hi2.2] at this
        rw [List.getD_eq_getElem?_getD]
        exact this
      have hau : a.1.length ≤ maxLen := hu a (by
        have := hal a
        rw [List.getD_eq_getElem?_getD, List.getElem?_eq_getElem hi2.1, Option.getD_some] at this
        rw [← this]
        exact List.getElem_mem _)
      have h100 : decide ((i : Int) < 100) = true := by simp; omega
      have hR' := hR.learn n a hau
      have hlen' := learn_len n b.2 a
      simp only [B6_0, nat_lt, nat_nn, decide_eq_true hi2.1, h100, Bool.and_self, cond_true, Int.toNat_natCast, hal]
      rw [F14_eq hR n a.1 hau]
      simp only [Option.bind_some]
      rw [F19_eq hR n (by omega)]
      simp only [Option.bind_some]
      rw [seat_eta, F17_eq hR n a hau]
      simp only [Option.bind_some]
      rw [F14_eq hR' n a.1 hau]
      simp only [Option.bind_some, Bool.true_or, cond_true]
      rcases learn_cases n b.2 a with ⟨e1, e2, e3, _⟩ | ⟨e1, e2, _⟩
      · have hs : seatL n (learnL n b.2 a).2 a.1 = a := by rw [e2, seat_put n hR.srt a]
        rw [hs, e1, decide_eq_false (Int.not_lt.2 (Int.le_of_lt e3))]
        simp only [decide_true, Bool.and_self, Bool.not_true, Bool.and_false, Bool.or_self, cond_false]
        rw [w64_nat (by omega)]
        rfl
      · rw [decide_eq_false e1]
        rw [F19_eq hR' n (by omega)]
        have hs : seatL n (learnL n b.2 a).2 a.1 = seatL n b.2 a.1 := by rw [e2]
        rw [hs, decide_eq_false (Int.lt_irrefl _)]
        simp only [Bool.false_and, Bool.or_self, cond_false, Bool.not_false, cond_true, Option.bind_some]
        rw [F18_eq _ _ (by omega), e2]
        simp only [Option.bind_some, decide_true, Bool.not_true, cond_false]
        rw [w64_nat (by omega)]
        have : stepP n b a = (learnM n b.1 b.2 a, b.2) := by unfold stepP; rw [e2]
        rw [this]⟩) (fun b hI => by
      have h1 : (decide (((l.take 100).length : Int) < ((List.length l : Nat) : Int)) && decide (((l.take 100).length : Int) < 100)) = false := by
        simp only [List.length_take, Bool.and_eq_false_iff, decide_eq_false_iff_not]
        omega
      simp only [B6_0, h1, cond_false]) (by unfold FUEL; simp only [List.length_take]; omega) (b := ([], [])) ⟨Rel.nil, by simp⟩
  simp only [F6, hn, F16_right hr, Option.bind_some, decide_true, Bool.not_true, Bool.or_self, cond_false, L6_0]
  erw [hw]
  rw [foldS_inl]
  simp only [Option.bind_some, live_eq]

theorem F20_eq (n : Int) (M : List Ent) : F20 ((true, ()), ((n, (), ()), M, ())) = some (true, ((n, (), ()), M, (n, (), ()), M, ())) := by
  simp only [F20, Bool.not_true, cond_false, cond_true, decide_true]
theorem F21_eq (n : Int) (L : List Seat) : F21 ((true, ()), ((n, L, ()), ())) = some (true, ((n, L, ()), (n, L, ()), ())) := by
  simp only [F21, Bool.not_true, cond_false, cond_true]

theorem stepP_le (n : Int) (l : List Seat) (b : List Ent × List Seat) : (l.foldl (stepP n) b).2.length ≤ b.2.length + l.length := stepP_len n l b

theorem law7 (l more : List Seat) (u : Tx) (hl : l.length ≤ maxLen) (hu : ∀ s ∈ l, s.1.length ≤ maxLen) (hl2 : more.length ≤ maxLen) (hu2 : ∀ s ∈ more, s.1.length ≤ maxLen) : F7 ((l, more, u, ()), ()) = some (true, ()) := by
  have hm : maxLen = 9223372036854775807 := rfl
  have hr : rightN 3 = true := by decide
  obtain ⟨M, hR, hlen, hF⟩ := F13_right hr l hl hu
  generalize playL 3 (l.take 150) = L at hR hlen hF
  have hw := walk_listI (f := B7_0) (fun (b : List Ent × List Seat) i => ((more, u, true, true, true, true, (i : Int), ()), (((3 : Int), (), ()), ((3 : Int), L, ()), ((3 : Int), (), ()), ((3 : Int), b.2, ()), M, b.1, ()))) (more.take 100) (fun s b => .inl (stepP 3 b s)) (fun b => Sum.inl ((u, true, true, true, true, ()), (((3 : Int), (), ()), ((3 : Int), L, ()), ((3 : Int), (), ()), ((3 : Int), b.2, ()), M, b.1, ())))
    (fun b i => Rel b.1 b.2 ∧ b.2.length ≤ 150 + i) (fun b i a hI hi ha => .inl ⟨_, rfl, ⟨hI.1.learn 3 a (hu2 a (by
      have := ha a
      rw [List.getD_eq_getElem?_getD, List.getElem?_eq_getElem hi, Option.getD_some] at this
      rw [← this]
      exact List.mem_of_mem_take (List.getElem_mem hi))), by have := learn_len 3 b.2 a; have := hI.2; show (learnL 3 b.2 a).2.length ≤ _; omega⟩, by
      obtain ⟨hR, hb⟩ := hI
      have hi2 := (take_lt more 100 i).1 hi
      have hal : ∀ d, more.getD i d = a := fun d => by
        have := ha d
        rw [List.getD_eq_getElem?_getD, List.getElem?_take_of_lt hi2.2] at this
        rw [List.getD_eq_getElem?_getD]
        exact this
      have hau : a.1.length ≤ maxLen := hu2 a (by
        have := hal a
        rw [List.getD_eq_getElem?_getD, List.getElem?_eq_getElem hi2.1, Option.getD_some] at this
        rw [← this]
        exact List.getElem_mem _)
      have h100 : decide ((i : Int) < 100) = true := by simp; omega
      simp only [B7_0, nat_lt, nat_nn, decide_eq_true hi2.1, h100, Bool.and_self, cond_true, Int.toNat_natCast, hal]
      rw [seat_eta, F17_eq hR 3 a hau]
      simp only [Option.bind_some]
      rw [F22_eq 3 hR.srt a (by omega) hau]
      simp only [Option.bind_some, decide_true, Bool.not_true, cond_false]
      rw [w64_nat (by omega)]
      rfl⟩) (fun b hI => by
      have h1 : (decide (((more.take 100).length : Int) < ((List.length more : Nat) : Int)) && decide (((more.take 100).length : Int) < 100)) = false := by
        simp only [List.length_take, Bool.and_eq_false_iff, decide_eq_false_iff_not]
        omega
      simp only [B7_0, h1, cond_false]) (by unfold FUEL; simp only [List.length_take]; omega) (b := (M, L)) ⟨hR, by omega⟩
  have hR2 := stepP_rel 3 (more.take 100) (M, L) (fun s hs => hu2 s (List.mem_of_mem_take hs)) hR
  have hlen2 := stepP_len 3 (more.take 100) (M, L)
  have ht : (more.take 100).length ≤ 100 := by simp only [List.length_take]; omega
  simp only [F7, hF, Option.bind_some, Bool.not_true, Bool.or_self, cond_false, F20_eq, F21_eq, L7_0]
  erw [hw]
  rw [foldS_inl]
  simp only [Option.bind_some, F14_nil, live_eq, Bool.not_true, Bool.or_false, cond_true]
  rw [F19_eq hR 3 (by omega)]
  simp only [Option.bind_some]
  rw [F18_eq _ _ (by omega)]
  simp only [Option.bind_some, decide_true, Bool.not_true, Bool.or_false, cond_true]
  rw [F19_eq hR2 3 (by simp only at hlen2 ⊢; omega)]
  simp only [Option.bind_some]
  rw [F18_eq _ _ (by simp only at hlen2 ⊢; omega)]
  have e1 : F17 ((false, ([], 0, 0, ()), ()), ((0, (), ()), [], ())) = some (1, ((0, (), ()), [], ())) := rfl
  have e2 : F19 ((false, ()), ((0, (), ()), [], ())) = some ([], ((0, (), ()), [], ())) := rfl
  have e3 : F20 ((false, ()), ((0, (), ()), [], ())) = some (false, ((0, (), ()), [], (0, (), ()), [], ())) := rfl
  simp only [Option.bind_some, decide_true, Bool.true_and, cond_true, e1, e2, e3, List.length_nil, agr_self]
  rfl
end Go.Pl

namespace Go.Pl
open Go Go.Ev
set_option maxRecDepth 100000

def okS (n : Int) (s : Seat) : Prop := 0 ≤ s.2.1 ∧ s.2.1 < n ∧ 1 ≤ s.2.2.1

/-- What has been learnt: what is there is of what came; nothing that came is ahead of what is there. -/
structure Char (n : Int) (P : Seat → Prop) (L : List Seat) : Prop where
  srt : Srt L
  of : ∀ s ∈ L, P s ∧ okS n s ∧ 1 < s.2.2.1
  top : ∀ t, P t → okS n t → t.2.2.1 ≤ (seatL n L t.1).2.2.1

theorem Char.nil (n : Int) : Char n (fun _ => False) [] := ⟨by simp [Srt], by simp, fun _ h => h.elim⟩

theorem seatL_ge {n : Int} {P : Seat → Prop} {L : List Seat} (h : Char n P L) (u : Tx) : 1 ≤ (seatL n L u).2.2.1 := by
  unfold seatL
  cases hg : getL L u with
  | none => exact Int.le_refl _
  | some s => exact Int.le_of_lt (h.of s (getL_some hg).1).2.2

theorem seatL_gt {n : Int} {L : List Seat} {u : Tx} (h : 1 < (seatL n L u).2.2.1) : ∃ s, s ∈ L ∧ s.1 = u ∧ seatL n L u = s := by
  unfold seatL at h ⊢
  cases hg : getL L u with
  | none => rw [hg] at h; exact absurd h (Int.lt_irrefl _)
  | some s => exact ⟨s, (getL_some hg).1, (getL_some hg).2, rfl⟩

theorem seat_put_other (n : Int) {L : List Seat} (h : Srt L) (s : Seat) {u : Tx} (hne : u ≠ s.1) : seatL n (putL L s) u = seatL n L u := by
  have : getL (putL L s) u = getL L u := by
    cases hg : getL L u with
    | none =>
      rw [getL_none] at hg ⊢
      intro x hx
      rcases (mem_putL h x).1 hx with rfl | ⟨hx, _⟩
      · exact fun e => hne e.symm
      · exact hg x hx
    | some x =>
      obtain ⟨h1, h2⟩ := getL_some hg
      exact (getL_iff (srt_putL h)).2 ⟨(mem_putL h x).2 (.inr ⟨h1, by rw [h2]; exact hne⟩), h2⟩
  unfold seatL
  rw [this]

theorem Char.learn {n : Int} {P : Seat → Prop} {L : List Seat} (h : Char n P L) (a : Seat) (hl : L.length < 64) : Char n (fun s => P s ∨ s = a) (learnL n L a).2 := by
  rcases learn_cases n L a with ⟨_, e, h1, h2, h3, h4⟩ | ⟨_, e, h1⟩
  · rw [e]
    refine ⟨srt_putL h.srt, fun s hs => ?_, fun t ht hok => ?_⟩
    · rcases (mem_putL h.srt s).1 hs with rfl | ⟨hs, _⟩
      · exact ⟨.inr rfl, ⟨h2, h3, h4⟩, Int.lt_of_le_of_lt (seatL_ge h _) h1⟩
      · obtain ⟨p1, p2, p3⟩ := h.of s hs
        exact ⟨.inl p1, p2, p3⟩
    · by_cases hu : t.1 = a.1
      · rw [hu, seat_put n h.srt a]
        rcases ht with ht | rfl
        · have := h.top t ht hok
          rw [hu] at this
          exact Int.le_trans this (Int.le_of_lt h1)
        · exact Int.le_refl _
      · rw [seat_put_other n h.srt a hu]
        rcases ht with ht | rfl
        · exact h.top t ht hok
        · exact absurd rfl hu
  · rw [e]
    refine ⟨h.srt, fun s hs => ?_, fun t ht hok => ?_⟩
    · obtain ⟨p1, p2, p3⟩ := h.of s hs
      exact ⟨.inl p1, p2, p3⟩
    · rcases ht with ht | rfl
      · exact h.top t ht hok
      · rcases h1 with h1 | h1 | h1
        · exfalso
          obtain ⟨q1, q2, q3⟩ := hok
          rcases h1 with h1 | h1 | h1
          · exact absurd q1 (Int.not_le.2 h1)
          · exact absurd q2 (Int.not_lt.2 h1)
          · exact absurd q3 (Int.not_le.2 h1)
        · exact h1
        · omega

theorem Char.congr {n : Int} {P Q : Seat → Prop} {L : List Seat} (h : Char n P L) (hPQ : ∀ s, P s ↔ Q s) : Char n Q L :=
  ⟨h.srt, fun s hs => by obtain ⟨p1, p2⟩ := h.of s hs; exact ⟨(hPQ s).1 p1, p2⟩, fun t ht => h.top t ((hPQ t).2 ht)⟩

/-- no two of one user have one epoch -/
def NoConf (P : Seat → Prop) : Prop := ∀ s t, P s → P t → s.1 = t.1 → s.2.2.1 = t.2.2.1 → s = t

theorem Char.sub {n : Int} {P : Seat → Prop} {L L' : List Seat} (hc : NoConf P) (h : Char n P L) (h' : Char n P L') : ∀ s ∈ L, s ∈ L' := fun s hs => by
  obtain ⟨p1, p2, p3⟩ := h.of s hs
  have h1 := h'.top s p1 p2
  obtain ⟨s2, q1, q2, q3⟩ := seatL_gt (Int.lt_of_lt_of_le p3 h1)
  rw [q3] at h1
  obtain ⟨r1, r2, r3⟩ := h'.of s2 q1
  have h2 := h.top s2 r1 r2
  have : seatL n L s2.1 = s := by
    unfold seatL
    rw [(getL_iff h.srt).2 ⟨hs, q2.symm⟩]
    rfl
  rw [this] at h2
  have := hc s s2 p1 r1 q2.symm (Int.le_antisymm h1 h2)
  rw [this]
  exact q1

theorem Char.one {n : Int} {P : Seat → Prop} {L L' : List Seat} (hc : NoConf P) (h : Char n P L) (h' : Char n P L') : L = L' := by
  have nd : ∀ {L : List Seat}, Srt L → L.Nodup := fun hs => hs.imp fun {a b} hlt e => by rw [e] at hlt; exact List.lt_irrefl _ hlt
  have hp : L.Perm L' := (List.perm_ext_iff_of_nodup (nd h.srt) (nd h'.srt)).2 fun s => ⟨h.sub hc h' s, h'.sub hc h s⟩
  refine List.Perm.eq_of_pairwise (le := fun a b : Seat => a.1 < b.1) (fun a b _ _ h1 h2 => ?_) h.srt h'.srt hp
  exact absurd (List.lt_trans h1 h2) (List.lt_irrefl _)

theorem len_sub {α : Type} [DecidableEq α] : ∀ {L l : List α}, L.Nodup → (∀ x ∈ L, x ∈ l) → L.length ≤ l.length
  | [], _, _, _ => Nat.zero_le _
  | a :: r, l, hn, hs => by
    have hn' := List.nodup_cons.1 hn
    have ha : a ∈ l := hs a (by simp)
    have h1 := len_sub (L := r) (l := l.erase a) hn'.2 fun x hx => by
      have hne : x ≠ a := fun e => hn'.1 (e ▸ hx)
      exact (List.mem_erase_of_ne hne).2 (hs x (by simp [hx]))
    have h2 := List.length_erase_of_mem ha
    have h3 : 0 < l.length := List.length_pos_of_mem ha
    simp only [List.length_cons]
    omega

theorem Char.len {n : Int} {P : Seat → Prop} {L l : List Seat} (h : Char n P L) (hs : ∀ s, P s → s ∈ l) : L.length ≤ l.length :=
  len_sub (h.srt.imp fun {a b} hlt e => by rw [e] at hlt; exact List.lt_irrefl _ hlt) fun s hm => hs s (h.of s hm).1

/-! the loops -/
def Conf (l : List Seat) (i k : Nat) : Prop := ∀ s t, l[i]? = some s → l[k]? = some t → s.1 = t.1 → s.2.2.1 = t.2.2.1 → s = t

theorem getD_at {l : List Seat} {i : Nat} (h : i < l.length) (d : Seat) : l.getD i d = l[i] := by
  rw [List.getD_eq_getElem?_getD, List.getElem?_eq_getElem h, Option.getD_some]

theorem eqS (a b : Seat) : (decide (a.1 = b.1) && (decide (a.2.1 = b.2.1) && decide (a.2.2.1 = b.2.2.1))) = decide (a = b) := by
  rw [Bool.eq_iff_iff]
  simp only [Bool.and_eq_true, decide_eq_true_eq]
  constructor
  · rintro ⟨h1, h2, h3⟩
    exact Prod.ext h1 (Prod.ext h2 (Prod.ext h3 rfl))
  · intro e; rw [e]; exact ⟨rfl, rfl, rfl⟩

theorem inner {l : List Seat} (hl : l.length ≤ 40) (y : UInt8) (n : Int) {i : Nat} (hi : i < l.length) :
    ∃ r, L5_1 ((l, y, n, (i : Int), 0, ()), ()) = some r ∧ ((r = Sum.inl ((l, y, n, (i : Int), ()), ()) ∧ ∀ k, k < i → Conf l i k) ∨ ∃ q, r = Sum.inr q ∧ q.1.1 = true) := by
  refine loop_ind (f := B5_1) (fun p => ∃ k : Nat, p = ((l, y, n, (i : Int), (k : Int), ()), ()) ∧ k ≤ i ∧ ∀ j, j < k → Conf l i j) (fun p => i - p.1.2.2.2.2.1.toNat) _ ?_ ⟨0, rfl, Nat.zero_le _, by simp⟩ (by unfold FUEL; simp; omega)
  rintro p ⟨k, rfl, hk, hc⟩
  by_cases hki : k < i
  · have hkl : k < l.length := by omega
    have e : B5_1 ((l, y, n, (i : Int), (k : Int), ()), ()) = (cond ((decide (l[i].1 = l[k].1) && decide (l[i].2.2.1 = l[k].2.2.1)) && !decide (l[i] = l[k])) (some (Sum.inr (Sum.inr ((true, ()), ())))) (some (Sum.inl ((l, y, n, (i : Int), w64 ((k : Int) + 1), ()), ())))) := by
      have := eqS l[i] l[k]
      simp only [B5_1, nat_lt, nat_nn, decide_eq_true hki, decide_eq_true hi, decide_eq_true hkl, Bool.and_self, Bool.true_or, cond_true, Int.toNat_natCast, getD_at hi, getD_at hkl, this, live_eq, Option.bind_some]
    rw [e]
    cases hx : ((decide (l[i].1 = l[k].1) && decide (l[i].2.2.1 = l[k].2.2.1)) && !decide (l[i] = l[k])) with
    | true => exact .inr ⟨_, rfl, .inr ⟨_, rfl, rfl⟩⟩
    | false =>
      refine .inl ⟨_, rfl, ⟨k + 1, by rw [w64_nat (by omega)], hki, fun j hj => ?_⟩, ?_⟩
      · rcases Nat.lt_succ_iff_lt_or_eq.1 hj with h | rfl
        · exact hc j h
        · intro s t hs ht h1 h2
          rw [List.getElem?_eq_getElem hi] at hs
          rw [List.getElem?_eq_getElem hkl] at ht
          cases hs
          cases ht
          rw [decide_eq_true h1, decide_eq_true h2] at hx
          simpa using hx
      · simp only [w64_nat (show k < 9223372036854775807 by omega), Int.toNat_natCast]
        omega
  · obtain rfl : k = i := by omega
    refine .inr ⟨_, by simp only [B5_1, nat_lt, decide_eq_false hki, cond_false], .inl ⟨rfl, hc⟩⟩

theorem outer {l : List Seat} (hl : l.length ≤ 40) (y : UInt8) (n : Int) :
    ∃ r, L5_0 ((l, y, n, 0, ()), ()) = some r ∧ ((r = Sum.inl ((l, y, n, ()), ()) ∧ ∀ i k, k < i → Conf l i k) ∨ ∃ q, r = Sum.inr q ∧ q.1.1 = true) := by
  refine loop_ind (f := B5_0) (fun p => ∃ i : Nat, p = ((l, y, n, (i : Int), ()), ()) ∧ i ≤ l.length ∧ ∀ j k, j < i → k < j → Conf l j k) (fun p => l.length - p.1.2.2.2.1.toNat) _ ?_ ⟨0, rfl, Nat.zero_le _, by simp⟩ (by unfold FUEL; simp; omega)
  rintro p ⟨i, rfl, hil, hc⟩
  by_cases hi : i < l.length
  · obtain ⟨r, h1, h2⟩ := inner hl y n hi
    rcases h2 with ⟨rfl, h2⟩ | ⟨q, rfl, h2⟩
    · refine .inl ⟨_, by simp only [B5_0, nat_lt, decide_eq_true hi, cond_true, h1, Option.bind_some]; rfl, ⟨i + 1, by rw [w64_nat (by omega)], hi, fun j k hj hk => ?_⟩, ?_⟩
      · rcases Nat.lt_succ_iff_lt_or_eq.1 hj with h | rfl
        · exact hc j k h hk
        · exact h2 k hk
      · simp only [w64_nat (show i < 9223372036854775807 by omega), Int.toNat_natCast]
        omega
    · exact .inr ⟨_, by simp only [B5_0, nat_lt, decide_eq_true hi, cond_true, h1, Option.bind_some], .inr ⟨_, rfl, h2⟩⟩
  · refine .inr ⟨_, by simp only [B5_0, nat_lt, decide_eq_false hi, cond_false], .inl ⟨rfl, fun j k hk => ?_⟩⟩
    rcases Nat.lt_or_ge j i with h | h
    · exact hc j k h hk
    · intro s t hs
      rw [List.getElem?_eq_none (by omega)] at hs
      cases hs

/-- where the other map's next seat lies -/
theorem turn_ix {l : List Seat} (hl : l.length ≤ 40) {i : Nat} (hi : i < l.length) (y : UInt8) :
    ∃ j : Nat, Int.tmod (w64 (w64 (w64 ((l.length : Int) - 1) - (i : Int)) + ((y.toNat : Nat) : Int))) (l.length : Int) = (j : Int) ∧ j < l.length := by
  have hy : y.toNat < 256 := y.toNat_lt
  rw [w64_id (show -9223372036854775808 ≤ (l.length : Int) - 1 by omega) (by omega), w64_id (show -9223372036854775808 ≤ (l.length : Int) - 1 - (i : Int) by omega) (by omega), w64_id (by omega) (by omega)]
  rw [Int.tmod_eq_emod_of_nonneg (by omega)]
  have h1 := Int.emod_lt_of_pos ((l.length : Int) - 1 - (i : Int) + ((y.toNat : Nat) : Int)) (show (0 : Int) < (l.length : Int) by omega)
  have h2 := Int.emod_nonneg ((l.length : Int) - 1 - (i : Int) + ((y.toNat : Nat) : Int)) (show (l.length : Int) ≠ 0 by omega)
  exact ⟨(((l.length : Int) - 1 - (i : Int) + ((y.toNat : Nat) : Int)) % (l.length : Int)).toNat, by omega, by omega⟩

theorem both {l : List Seat} (hl : l.length ≤ 40) (hu : ∀ s ∈ l, s.1.length ≤ maxLen) (y : UInt8) (n : Int) :
    ∃ r, L5_2 ((l, y, true, true, 0, ()), ((n, (), ()), (n, (), ()), [], [], ())) = some r ∧ ∃ (M1 M2 : List Ent) (L1 L2 : List Seat) (Q : Seat → Prop), r = ((l, true, true, ()), ((n, (), ()), (n, (), ()), M1, M2, ())) ∧ Rel M1 L1 ∧ Rel M2 L2 ∧ Char n (· ∈ l) L1 ∧ Char n Q L2 ∧ ∀ s, Q s → s ∈ l := by
  refine loop_ind (f := B5_2) (fun p => ∃ (i : Nat) (M1 M2 : List Ent) (L1 L2 : List Seat) (Q : Seat → Prop), p = ((l, y, true, true, (i : Int), ()), ((n, (), ()), (n, (), ()), M1, M2, ())) ∧ i ≤ l.length ∧ Rel M1 L1 ∧ Rel M2 L2 ∧ Char n (· ∈ l.take i) L1 ∧ Char n Q L2 ∧ ∀ s, Q s → s ∈ l)
    (fun p => l.length - p.1.2.2.2.2.1.toNat) _ ?_ ⟨0, [], [], [], [], fun _ => False, rfl, Nat.zero_le _, Rel.nil, Rel.nil, (Char.nil n).congr (by simp), Char.nil n, fun _ h => h.elim⟩ (by unfold FUEL; simp; omega)
  rintro p ⟨i, M1, M2, L1, L2, Q, rfl, hil, hR1, hR2, hC1, hC2, hQ⟩
  by_cases hi : i < l.length
  · obtain ⟨j, hj, hjl⟩ := turn_ix hl hi y
    have hne : decide ((l.length : Int) ≠ 0) = true := by simp; intro h; subst h; simp at hi
    have hau : l[i].1.length ≤ maxLen := hu _ (List.getElem_mem _)
    have hbu : l[j].1.length ≤ maxLen := hu _ (List.getElem_mem _)
    have hl1 : L1.length ≤ l.length := hC1.len fun s hs => List.mem_of_mem_take hs
    have hl2 : L2.length ≤ l.length := hC2.len hQ
    refine .inl ⟨((l, y, true, true, ((i + 1 : Nat) : Int), ()), ((n, (), ()), (n, (), ()), learnM n M1 L1 l[i], learnM n M2 L2 l[j], ())), ?_, ⟨i + 1, _, _, (learnL n L1 l[i]).2, (learnL n L2 l[j]).2, fun s => Q s ∨ s = l[j], rfl, hi, hR1.learn n _ hau, hR2.learn n _ hbu, ?_, hC2.learn _ (by omega), ?_⟩, ?_⟩
    · simp only [B5_2, hj, nat_lt, nat_nn, decide_eq_true hi, decide_eq_true hjl, hne, Bool.and_self, cond_true, Int.toNat_natCast, getD_at hi, getD_at hjl]
      rw [seat_eta, F17_eq hR1 n _ hau]
      simp only [Option.bind_some]
      rw [seat_eta, F17_eq hR2 n _ hbu]
      simp only [Option.bind_some]
      rw [w64_nat (by omega)]
    · refine (hC1.learn l[i] (by omega)).congr fun s => ?_
      rw [List.take_succ_eq_append_getElem hi, List.mem_append, List.mem_singleton]
    · rintro s (h | rfl)
      · exact hQ s h
      · exact List.getElem_mem _
    · simp only [Int.toNat_natCast]; omega
  · obtain rfl : i = l.length := by omega
    rw [List.take_length] at hC1
    refine .inr ⟨_, by simp only [B5_2, nat_lt, decide_eq_false hi, cond_false], M1, M2, L1, L2, Q, rfl, hR1, hR2, hC1, hC2, hQ⟩

theorem again {l : List Seat} (hl : l.length ≤ 40) (hu : ∀ s ∈ l, s.1.length ≤ maxLen) (n : Int) (M1 : List Ent) {M : List Ent} {L : List Seat} {Q : Seat → Prop} (hR : Rel M L) (hC : Char n Q L) (hQ : ∀ s, Q s → s ∈ l) :
    ∃ r, L5_3 ((l, true, true, 0, ()), ((n, (), ()), (n, (), ()), M1, M, ())) = some r ∧ ∃ (M2 : List Ent) (L2 : List Seat), r = ((true, true, ()), ((n, (), ()), (n, (), ()), M1, M2, ())) ∧ Rel M2 L2 ∧ Char n (· ∈ l) L2 := by
  refine loop_ind (f := B5_3) (fun p => ∃ (i : Nat) (M2 : List Ent) (L2 : List Seat), p = ((l, true, true, (i : Int), ()), ((n, (), ()), (n, (), ()), M1, M2, ())) ∧ i ≤ l.length ∧ Rel M2 L2 ∧ Char n (fun s => Q s ∨ s ∈ l.take i) L2)
    (fun p => l.length - p.1.2.2.2.1.toNat) _ ?_ ⟨0, M, L, rfl, Nat.zero_le _, hR, hC.congr (by simp)⟩ (by unfold FUEL; simp; omega)
  rintro p ⟨i, M2, L2, rfl, hil, hR2, hC2⟩
  by_cases hi : i < l.length
  · have hau : l[i].1.length ≤ maxLen := hu _ (List.getElem_mem _)
    have hl2 : L2.length ≤ l.length := hC2.len fun s hs => hs.elim (hQ s) List.mem_of_mem_take
    refine .inl ⟨((l, true, true, ((i + 1 : Nat) : Int), ()), ((n, (), ()), (n, (), ()), M1, learnM n M2 L2 l[i], ())), ?_, ⟨i + 1, _, (learnL n L2 l[i]).2, rfl, hi, hR2.learn n _ hau, ?_⟩, ?_⟩
    · simp only [B5_3, nat_lt, nat_nn, decide_eq_true hi, Bool.and_self, cond_true, Int.toNat_natCast, getD_at hi]
      rw [seat_eta, F17_eq hR2 n _ hau]
      simp only [Option.bind_some]
      rw [w64_nat (by omega)]
    · refine (hC2.learn l[i] (by omega)).congr fun s => ?_
      rw [List.take_succ_eq_append_getElem hi, List.mem_append, List.mem_singleton, or_assoc]
    · simp only [Int.toNat_natCast]; omega
  · obtain rfl : i = l.length := by omega
    rw [List.take_length] at hC2
    refine .inr ⟨_, by simp only [B5_3, nat_lt, decide_eq_false hi, cond_false], M2, L2, rfl, hR2, hC2.congr fun s => ⟨fun h => h.elim (hQ s) id, .inr⟩⟩

theorem law5 (x : UInt8) (l0 : List Seat) (y : UInt8) (hl0 : l0.length ≤ maxLen) (hu0 : ∀ s ∈ l0, s.1.length ≤ maxLen) : F5 ((x, l0, y, ()), ()) = some (true, ()) := by
  obtain ⟨n, hn, hr⟩ := n_of x
  have hcut : (cond (decide ((40:Int) < ((List.length l0 : Nat) : Int))) (cond (decide ((40:Int) ≤ ((List.length l0 : Nat) : Int))) (some ((x, l0.take 40, y, ()), ())) none) (some ((x, l0, y, ()), ())) : Option ((UInt8 × List Seat × UInt8 × Unit) × Unit)) = some ((x, l0.take 40, y, ()), ()) := by
    by_cases h : 40 < l0.length
    · rw [decide_eq_true (show (40 : Int) < ((List.length l0 : Nat) : Int) by omega), decide_eq_true (show (40 : Int) ≤ ((List.length l0 : Nat) : Int) by omega)]
      rfl
    · rw [decide_eq_false (show ¬ (40 : Int) < ((List.length l0 : Nat) : Int) by omega), List.take_of_length_le (by omega)]
      rfl
  have hl : (l0.take 40).length ≤ 40 := by simp only [List.length_take]; omega
  have hu : ∀ s ∈ l0.take 40, s.1.length ≤ maxLen := fun s hs => hu0 s (List.mem_of_mem_take hs)
  simp only [F5]
  erw [hcut]
  generalize l0.take 40 = l at hl hu
  simp only [Option.bind_some, hn]
  obtain ⟨r, h1, h2⟩ := outer hl y n
  rw [h1]
  rcases h2 with ⟨rfl, hc⟩ | ⟨q, rfl, hq⟩
  · obtain ⟨r2, h3, M1, M2, L1, L2, Q, rfl, hR1, hR2, hC1, hC2, hQ⟩ := both hl hu y n
    obtain ⟨r3, h4, M3, L3, rfl, hR3, hC3⟩ := again hl hu n M1 hR2 hC2 hQ
    have hno : NoConf (· ∈ l) := fun s t hs ht e1 e2 => by
      obtain ⟨i, hi, rfl⟩ := List.getElem_of_mem hs
      obtain ⟨k, hk, rfl⟩ := List.getElem_of_mem ht
      rcases Nat.lt_trichotomy i k with h | h | h
      · exact (hc k i h _ _ (List.getElem?_eq_getElem hk) (List.getElem?_eq_getElem hi) e1.symm e2.symm).symm
      · subst h; rfl
      · exact hc i k h _ _ (List.getElem?_eq_getElem hi) (List.getElem?_eq_getElem hk) e1 e2
    have hl1 : L1.length ≤ l.length := hC1.len fun s hs => hs
    have hl3 : L3.length ≤ l.length := hC3.len fun s hs => hs
    simp only [Option.bind_some, F16_right hr, decide_true, Bool.not_true, Bool.or_self, cond_false]
    rw [h3]
    simp only [Option.bind_some]
    rw [h4]
    simp only [Option.bind_some, live_eq, cond_true]
    rw [F19_eq hR1 n (by omega)]
    simp only [Option.bind_some]
    rw [F19_eq hR3 n (by omega)]
    simp only [Option.bind_some]
    rw [F18_eq _ _ (by omega), hC1.one hno hC3]
    simp only [Option.bind_some, decide_true]
  · simp only [Option.bind_some, hq]
end Go.Pl
