/- PlaceHashes and PlaceLearns. -/
import Derived.Test.YtjpbndlmjbmdaaaPlq2
namespace Go.Pl
open Go Go.Ev
set_option maxRecDepth 100000

theorem F16_right {n : Int} (h : rightN n = true) : F16 ((n, ()), ()) = some ((true, 0, ()), ((n, (), ()), [], ())) := by
  simp only [rightN] at h
  simp only [F16, h, Bool.not_true, cond_false]
theorem F16_wrong {n : Int} (h : rightN n = false) : F16 ((n, ()), ()) = some ((false, 2, ()), ((0, (), ()), [], ())) := by
  simp only [rightN] at h
  simp only [F16, h, Bool.not_false, cond_true]
theorem F24_right {n : Int} (h : rightN n = true) : F24 ((n, ()), ()) = some ((true, 0, ()), ((n, (), ()), [], ())) := by
  simp only [rightN, Bool.and_eq_true, decide_eq_true_eq] at h
  simp only [F24, decide_eq_false (show ¬ n < 1 by omega), decide_eq_false (show ¬ 4 < n by omega), Bool.or_self, cond_false]
theorem F24_wrong {n : Int} (h : rightN n = false) : F24 ((n, ()), ()) = some ((false, 2, ()), ((0, (), ()), [], ())) := by
  have hc : (decide (n < 1) || decide (4 < n)) = true := by
    simp only [rightN, Bool.and_eq_false_iff, decide_eq_false_iff_not] at h
    simp only [Bool.or_eq_true, decide_eq_true_eq]
    omega
  simp only [F24, hc, cond_true]

theorem hash_nil : hash [] = 2166136261 := rfl
theorem hash_a : hash [97] = 3826002220 := by decide

theorem live_eq : F10 ((), ()) = some (true, ()) := by
  have hm : maxLen = 9223372036854775807 := rfl
  have hr : rightN 3 = true := by decide
  have e1 : learnL 3 [] ([117], 2, 5, ()) = (0, [([117], 2, 5, ())]) := by decide
  have hL := Rel.nil.learn 3 ([117], 2, 5, ()) (by decide)
  have e3 : seatL 3 [([117], 2, 5, ())] [117] = ([117], 2, 5, ()) := by decide
  rw [e1] at hL
  have q1 := F17_eq Rel.nil 3 ([117], 2, 5, ()) (by decide)
  rw [e1] at q1
  have q2 := F14_eq hL 3 [117] (by decide)
  rw [e3] at q2
  have q3 := F19_eq hL 3 (by decide)
  simp only [F10, F16_right hr, Option.bind_some, q1, q2, F11_eq [] (by decide), F11_eq [97] (by decide), hash_nil, hash_a, q3]
  rfl

theorem law3 (u : Tx) (n : Int) (hu : u.length ≤ maxLen) : F3 ((u, n, ()), ()) = some (true, ()) := by
  simp only [F3, F8_eq u n hu, F9_eq u n hu, F11_eq u hu, F12_eq u hu, live_eq, Option.bind_some, decide_true, Bool.and_self, cond_true]

/-- Seats that are learnt, one behind the other. -/
def playL (n : Int) (l : List Seat) : List Seat := l.foldl (fun L s => (learnL n L s).2) []

def stepP (n : Int) (b : List Ent × List Seat) (s : Seat) : List Ent × List Seat := (learnM n b.1 b.2 s, (learnL n b.2 s).2)

theorem stepP_snd (n : Int) : ∀ (l : List Seat) (b : List Ent × List Seat), (l.foldl (stepP n) b).2 = l.foldl (fun L s => (learnL n L s).2) b.2
  | [], _ => rfl
  | a :: t, b => by simp only [List.foldl_cons]; rw [stepP_snd n t]; rfl

theorem stepP_rel (n : Int) : ∀ (l : List Seat) (b : List Ent × List Seat), (∀ s ∈ l, s.1.length ≤ maxLen) → Rel b.1 b.2 → Rel (l.foldl (stepP n) b).1 (l.foldl (stepP n) b).2
  | [], _, _, h => h
  | a :: t, b, hl, h => by
    simp only [List.foldl_cons]
    exact stepP_rel n t _ (fun s hs => hl s (by simp [hs])) (h.learn n a (hl a (by simp)))

theorem stepP_len (n : Int) : ∀ (l : List Seat) (b : List Ent × List Seat), (l.foldl (stepP n) b).2.length ≤ b.2.length + l.length
  | [], _ => by simp
  | a :: t, b => by
    simp only [List.foldl_cons, List.length_cons]
    have := stepP_len n t (stepP n b a)
    have h2 : (stepP n b a).2.length ≤ b.2.length + 1 := learn_len n b.2 a
    omega

theorem take_lt {α : Type} (l : List α) (n i : Nat) : i < (l.take n).length ↔ i < l.length ∧ i < n := by simp only [List.length_take]; omega

theorem F13_right {n : Int} (h : rightN n = true) (l : List Seat) (hl : l.length ≤ maxLen) (hu : ∀ s ∈ l, s.1.length ≤ maxLen) :
    ∃ M, Rel M (playL n (l.take 150)) ∧ (playL n (l.take 150)).length ≤ 150 ∧ F13 ((n, l, ()), ()) = some ((true, true, true, ()), ((n, (), ()), (n, playL n (l.take 150), ()), M, ())) := by
  have hm : maxLen = 9223372036854775807 := rfl
  have hut : ∀ s ∈ l.take 150, s.1.length ≤ maxLen := fun s hs => hu s (List.mem_of_mem_take hs)
  have hR := stepP_rel n (l.take 150) ([], []) hut Rel.nil
  have hlen := stepP_len n (l.take 150) ([], [])
  have hlt : (l.take 150).length ≤ 150 := by simp only [List.length_take]; omega
  have hsnd := stepP_snd n (l.take 150) ([], [])
  have hlen' : ((l.take 150).foldl (stepP n) ([], [])).2.length ≤ 150 := by simp only [List.length_nil] at hlen; omega
  refine ⟨((l.take 150).foldl (stepP n) ([], [])).1, by rw [show playL n (l.take 150) = _ from hsnd.symm]; exact hR, by rw [show playL n (l.take 150) = _ from hsnd.symm]; exact hlen', ?_⟩
  have hw := walk_listI (f := B13_0) (fun (b : List Ent × List Seat) i => ((l, true, true, (i : Int), ()), ((n, (), ()), (n, b.2, ()), b.1, ()))) (l.take 150) (fun s b => .inl (stepP n b s)) (fun b => Sum.inl ((true, true, ()), ((n, (), ()), (n, b.2, ()), b.1, ())))
    (fun b i => Rel b.1 b.2 ∧ b.2.length ≤ i) (fun b i a hI hi ha => .inl ⟨_, rfl, ⟨hI.1.learn n a (hu a (by
      have := ha a
      rw [List.getD_eq_getElem?_getD, List.getElem?_eq_getElem hi, Option.getD_some] at this
      rw [← this]
      exact List.mem_of_mem_take (List.getElem_mem hi))), by have := learn_len n b.2 a; have := hI.2; show (learnL n b.2 a).2.length ≤ _; omega⟩, by
      obtain ⟨hR, hb⟩ := hI
      have hi2 := (take_lt l 150 i).1 hi
      have hal : ∀ d, l.getD i d = a := fun d => by
        have := ha d
        rw [List.getD_eq_getElem?_getD, List.getElem?_take_of_lt hi2.2] at this
        rw [List.getD_eq_getElem?_getD]
        exact this
      have hau : a.1.length ≤ maxLen := hu a (by
        have := hal a
        rw [List.getD_eq_getElem?_getD, List.getElem?_eq_getElem hi2.1, Option.getD_some] at this
        rw [← this]
        exact List.getElem_mem _)
      have h150 : decide ((i : Int) < 150) = true := by simp; omega
      simp only [B13_0, nat_lt, nat_nn, decide_eq_true hi2.1, h150, Bool.not_true, Bool.not_false, Bool.and_self, cond_true, cond_false, Int.toNat_natCast, hal]
      rw [seat_eta, F17_eq hR n a hau]
      simp only [Option.bind_some]
      rw [F22_eq n hR.srt a (by omega) hau]
      simp only [Option.bind_some, decide_true, Bool.not_true, cond_false]
      rw [w64_nat (by omega)]
      rfl⟩) (fun b hI => by
      have h1 : (decide (((l.take 150).length : Int) < ((List.length l : Nat) : Int)) && decide (((l.take 150).length : Int) < 150)) = false := by
        simp only [List.length_take, Bool.and_eq_false_iff, decide_eq_false_iff_not]
        omega
      simp only [B13_0, Bool.not_true, Bool.not_false, Bool.true_and, h1, cond_false]) (by unfold FUEL; omega) (b := ([], [])) ⟨Rel.nil, by simp⟩
  simp only [F13, F16_right h, F24_right h, Option.bind_some, decide_true, Bool.not_true, Bool.false_or, L13_0]
  rw [show ((!(false == false)) : Bool) = false from rfl]
  simp only [cond_false]
  erw [hw]
  rw [foldS_foldl]
  simp only [Option.bind_some, Bool.true_or, cond_true, Bool.not_true, Bool.not_false, agr_self]
  rw [F19_eq hR n (by omega)]
  simp only [Option.bind_some]
  rw [F18_eq _ _ (by omega)]
  simp only [Option.bind_some, decide_true]
  rw [hsnd]
  rfl

theorem F13_wrong {n : Int} (h : rightN n = false) (l : List Seat) : F13 ((n, l, ()), ()) = some ((false, false, true, ()), ((0, (), ()), (0, [], ()), [], ())) := by
  have hw : loopOf B13_0 ((l, false, false, 0, ()), ((0, (), ()), (0, [], ()), [], ())) = some (Sum.inl ((false, false, ()), ((0, (), ()), (0, [], ()), [], ()))) := by
    have : ∀ n : Nat, iter B13_0 (n + 1) ((l, false, false, 0, ()), ((0, (), ()), (0, [], ()), [], ())) = some (Sum.inl ((false, false, ()), ((0, (), ()), (0, [], ()), [], ()))) := fun n => rfl
    exact this 9223372036854775807
  simp only [F13, F16_wrong h, F24_wrong h, Option.bind_some, decide_true, Bool.not_true, Bool.false_or, L13_0]
  rw [show ((!((!false) == (!false))) : Bool) = false from rfl]
  simp only [Bool.not_false, cond_false]
  erw [hw]
  simp only [Option.bind_some, Bool.not_false, Bool.or_true, cond_true, Bool.not_true, cond_false, agr_self]

theorem law4 (n : Int) (l : List Seat) (u : Tx) (hl : l.length ≤ maxLen) (hu : ∀ s ∈ l, s.1.length ≤ maxLen) (hv : u.length ≤ maxLen) : F4 ((n, l, u, ()), ()) = some (true, ()) := by
  cases h : rightN n with
  | true =>
    obtain ⟨M, hR, hlen, hF⟩ := F13_right h l hl hu
    simp only [F4, hF, Option.bind_some, Bool.not_true, cond_false, F14_eq hR n u hv, F15_eq n hR.srt u (by omega) hv, live_eq, decide_true, Bool.and_self]
  | false =>
    simp only [F4, F13_wrong h l, Option.bind_some, Bool.not_true, cond_false, F14_nil, live_eq]
    rfl
end Go.Pl

namespace Go.Pl
open Go Go.Ev
set_option maxRecDepth 100000

theorem learn_cases (n : Int) (L : List Seat) (s : Seat) :
    ((learnL n L s).1 = 0 ∧ (learnL n L s).2 = putL L s ∧ (seatL n L s.1).2.2.1 < s.2.2.1 ∧ 0 ≤ s.2.1 ∧ s.2.1 < n ∧ 1 ≤ s.2.2.1) ∨
    ((learnL n L s).1 ≠ 0 ∧ (learnL n L s).2 = L ∧ ((s.2.1 < 0 ∨ n ≤ s.2.1 ∨ s.2.2.1 < 1) ∨ s.2.2.1 ≤ (seatL n L s.1).2.2.1 ∨ 64 ≤ L.length)) := by
  unfold learnL
  cases h1 : (decide (s.2.1 < 0) || decide (n ≤ s.2.1) || decide (s.2.2.1 < 1)) with
  | true =>
    simp only [Bool.or_eq_true, decide_eq_true_eq] at h1
    refine .inr ⟨by simp, by simp, .inl ?_⟩
    rcases h1 with (h | h) | h
    · exact .inl h
    · exact .inr (.inl h)
    · exact .inr (.inr h)
  | false =>
    simp only [Bool.or_eq_false_iff, decide_eq_false_iff_not] at h1
    cases h2 : decide (s.2.2.1 ≤ (seatL n L s.1).2.2.1) with
    | true => exact .inr ⟨by simp, by simp, .inr (.inl (of_decide_eq_true h2))⟩
    | false =>
      have h2 := of_decide_eq_false h2
      cases h3 : (!(getL L s.1).isSome && decide (64 ≤ L.length)) with
      | true =>
        simp only [Bool.and_eq_true, decide_eq_true_eq] at h3
        exact .inr ⟨by simp, by simp, .inr (.inr h3.2)⟩
      | false => exact .inl ⟨by simp, by simp, Int.not_le.1 h2, Int.not_lt.1 h1.1.1, Int.not_le.1 h1.1.2, Int.not_lt.1 h1.2⟩

theorem seat_put (n : Int) {L : List Seat} (h : Srt L) (s : Seat) : seatL n (putL L s) s.1 = s := by
  unfold seatL
  rw [(getL_iff (srt_putL h)).2 ⟨(mem_putL h s).2 (.inl rfl), rfl⟩]
  rfl

theorem foldS_inl {α β τ : Type} (g : β → α → β) (fin : β → τ) (l : List α) (b : β) : foldS (fun a b => .inl (g b a)) fin b l = fin (l.foldl g b) := foldS_foldl g fin l b

theorem n_of (x : UInt8) : ∃ n : Int, w64 (1 + Int.tmod ((x.toNat : Nat) : Int) 4) = n ∧ rightN n = true := by
  refine ⟨_, rfl, ?_⟩
  rw [Int.tmod_eq_emod_of_nonneg (by omega), w64_id (by omega) (by omega)]
  simp only [rightN, Bool.and_eq_true, decide_eq_true_eq]
  omega

theorem law6 (x : UInt8) (l : List Seat) (hl : l.length ≤ maxLen) (hu : ∀ s ∈ l, s.1.length ≤ maxLen) : F6 ((x, l, ()), ()) = some (true, ()) := by
  have hm : maxLen = 9223372036854775807 := rfl
  obtain ⟨n, hn, hr⟩ := n_of x
  have hw := walk_listI (f := B6_0) (fun (b : List Ent × List Seat) i => ((l, true, (i : Int), ()), ((n, (), ()), b.1, ()))) (l.take 100) (fun s b => .inl (stepP n b s)) (fun _ => Sum.inl ((), ()))
    (fun b i => Rel b.1 b.2 ∧ b.2.length ≤ i) (fun b i a hI hi ha => .inl ⟨_, rfl, ⟨hI.1.learn n a (hu a (by
      have := ha a
      rw [List.getD_eq_getElem?_getD, List.getElem?_eq_getElem hi, Option.getD_some] at this
      rw [← this]
      exact List.mem_of_mem_take (List.getElem_mem hi))), by have := learn_len n b.2 a; have := hI.2; show (learnL n b.2 a).2.length ≤ _; omega⟩, by
      obtain ⟨hR, hb⟩ := hI
      have hi2 := (take_lt l 100 i).1 hi
      have hal : ∀ d, l.getD i d = a := fun d => by
        have := ha d
        rw [List.getD_eq_getElem?_getD, List.getElem?_take_of_lt hi2.2] at this
        rw [List.getD_eq_getElem?_getD]
        exact this
      have hau : a.1.length ≤ maxLen := hu a (by
        have := hal a
        rw [List.getD_eq_getElem?_getD, List.getElem?_eq_getElem hi2.1, Option.getD_some] at this
        rw [← this]
        exact List.getElem_mem _)
      have h100 : decide ((i : Int) < 100) = true := by simp; omega
      have hR' := hR.learn n a hau
      have hlen' := learn_len n b.2 a
      simp only [B6_0, nat_lt, nat_nn, decide_eq_true hi2.1, h100, Bool.and_self, cond_true, Int.toNat_natCast, hal]
      rw [F14_eq hR n a.1 hau]
      simp only [Option.bind_some]
      rw [F19_eq hR n (by omega)]
      simp only [Option.bind_some]
      rw [seat_eta, F17_eq hR n a hau]
      simp only [Option.bind_some]
      rw [F14_eq hR' n a.1 hau]
      simp only [Option.bind_some, Bool.true_or, cond_true]
      rcases learn_cases n b.2 a with ⟨e1, e2, e3, _⟩ | ⟨e1, e2, _⟩
      · have hs : seatL n (learnL n b.2 a).2 a.1 = a := by rw [e2, seat_put n hR.srt a]
        rw [hs, e1, decide_eq_false (Int.not_lt.2 (Int.le_of_lt e3))]
        simp only [decide_true, Bool.and_self, Bool.not_true, Bool.and_false, Bool.or_self, cond_false]
        rw [w64_nat (by omega)]
        rfl
      · rw [decide_eq_false e1]
        rw [F19_eq hR' n (by omega)]
        have hs : seatL n (learnL n b.2 a).2 a.1 = seatL n b.2 a.1 := by rw [e2]
        rw [hs, decide_eq_false (Int.lt_irrefl _)]
        simp only [Bool.false_and, Bool.or_self, cond_false, Bool.not_false, cond_true, Option.bind_some]
        rw [F18_eq _ _ (by omega), e2]
        simp only [Option.bind_some, decide_true, Bool.not_true, cond_false]
        rw [w64_nat (by omega)]
        have : stepP n b a = (learnM n b.1 b.2 a, b.2) := by unfold stepP; rw [e2]
        rw [this]⟩) (fun b hI => by
      have h1 : (decide (((l.take 100).length : Int) < ((List.length l : Nat) : Int)) && decide (((l.take 100).length : Int) < 100)) = false := by
        simp only [List.length_take, Bool.and_eq_false_iff, decide_eq_false_iff_not]
        omega
      simp only [B6_0, h1, cond_false]) (by unfold FUEL; simp only [List.length_take]; omega) (b := ([], [])) ⟨Rel.nil, by simp⟩
  simp only [F6, hn, F16_right hr, Option.bind_some, decide_true, Bool.not_true, Bool.or_self, cond_false, L6_0]
  erw [hw]
  rw [foldS_inl]
  simp only [Option.bind_some, live_eq]

theorem F20_eq (n : Int) (M : List Ent) : F20 ((true, ()), ((n, (), ()), M, ())) = some (true, ((n, (), ()), M, (n, (), ()), M, ())) := by
  simp only [F20, Bool.not_true, cond_false, cond_true, decide_true]
theorem F21_eq (n : Int) (L : List Seat) : F21 ((true, ()), ((n, L, ()), ())) = some (true, ((n, L, ()), (n, L, ()), ())) := by
  simp only [F21, Bool.not_true, cond_false, cond_true]

theorem stepP_le (n : Int) (l : List Seat) (b : List Ent × List Seat) : (l.foldl (stepP n) b).2.length ≤ b.2.length + l.length := stepP_len n l b

theorem law7 (l more : List Seat) (u : Tx) (hl : l.length ≤ maxLen) (hu : ∀ s ∈ l, s.1.length ≤ maxLen) (hl2 : more.length ≤ maxLen) (hu2 : ∀ s ∈ more, s.1.length ≤ maxLen) : F7 ((l, more, u, ()), ()) = some (true, ()) := by
  have hm : maxLen = 9223372036854775807 := rfl
  have hr : rightN 3 = true := by decide
  obtain ⟨M, hR, hlen, hF⟩ := F13_right hr l hl hu
  generalize playL 3 (l.take 150) = L at hR hlen hF
  have hw := walk_listI (f := B7_0) (fun (b : List Ent × List Seat) i => ((more, u, true, true, true, true, (i : Int), ()), (((3 : Int), (), ()), ((3 : Int), L, ()), ((3 : Int), (), ()), ((3 : Int), b.2, ()), M, b.1, ()))) (more.take 100) (fun s b => .inl (stepP 3 b s)) (fun b => Sum.inl ((u, true, true, true, true, ()), (((3 : Int), (), ()), ((3 : Int), L, ()), ((3 : Int), (), ()), ((3 : Int), b.2, ()), M, b.1, ())))
    (fun b i => Rel b.1 b.2 ∧ b.2.length ≤ 150 + i) (fun b i a hI hi ha => .inl ⟨_, rfl, ⟨hI.1.learn 3 a (hu2 a (by
      have := ha a
      rw [List.getD_eq_getElem?_getD, List.getElem?_eq_getElem hi, Option.getD_some] at this
      rw [← this]
      exact List.mem_of_mem_take (List.getElem_mem hi))), by have := learn_len 3 b.2 a; have := hI.2; show (learnL 3 b.2 a).2.length ≤ _; omega⟩, by
      obtain ⟨hR, hb⟩ := hI
      have hi2 := (take_lt more 100 i).1 hi
      have hal : ∀ d, more.getD i d = a := fun d => by
        have := ha d
        rw [List.getD_eq_getElem?_getD, List.getElem?_take_of_lt hi2.2] at this
        rw [List.getD_eq_getElem?_getD]
        exact this
      have hau : a.1.length ≤ maxLen := hu2 a (by
        have := hal a
        rw [List.getD_eq_getElem?_getD, List.getElem?_eq_getElem hi2.1, Option.getD_some] at this
        rw [← this]
        exact List.getElem_mem _)
      have h100 : decide ((i : Int) < 100) = true := by simp; omega
      simp only [B7_0, nat_lt, nat_nn, decide_eq_true hi2.1, h100, Bool.and_self, cond_true, Int.toNat_natCast, hal]
      rw [seat_eta, F17_eq hR 3 a hau]
      simp only [Option.bind_some]
      rw [F22_eq 3 hR.srt a (by omega) hau]
      simp only [Option.bind_some, decide_true, Bool.not_true, cond_false]
      rw [w64_nat (by omega)]
      rfl⟩) (fun b hI => by
      have h1 : (decide (((more.take 100).length : Int) < ((List.length more : Nat) : Int)) && decide (((more.take 100).length : Int) < 100)) = false := by
        simp only [List.length_take, Bool.and_eq_false_iff, decide_eq_false_iff_not]
        omega
      simp only [B7_0, h1, cond_false]) (by unfold FUEL; simp only [List.length_take]; omega) (b := (M, L)) ⟨hR, by omega⟩
  have hR2 := stepP_rel 3 (more.take 100) (M, L) (fun s hs => hu2 s (List.mem_of_mem_take hs)) hR
  have hlen2 := stepP_len 3 (more.take 100) (M, L)
  have ht : (more.take 100).length ≤ 100 := by simp only [List.length_take]; omega
  simp only [F7, hF, Option.bind_some, Bool.not_true, Bool.or_self, cond_false, F20_eq, F21_eq, L7_0]
  erw [hw]
  rw [foldS_inl]
  simp only [Option.bind_some, F14_nil, live_eq, Bool.not_true, Bool.or_false, cond_true]
  rw [F19_eq hR 3 (by omega)]
  simp only [Option.bind_some]
  rw [F18_eq _ _ (by omega)]
  simp only [Option.bind_some, decide_true, Bool.not_true, Bool.or_false, cond_true]
  rw [F19_eq hR2 3 (by simp only at hlen2 ⊢; omega)]
  simp only [Option.bind_some]
  rw [F18_eq _ _ (by simp only at hlen2 ⊢; omega)]
  have e1 : F17 ((false, ([], 0, 0, ()), ()), ((0, (), ()), [], ())) = some (1, ((0, (), ()), [], ())) := rfl
  have e2 : F19 ((false, ()), ((0, (), ()), [], ())) = some ([], ((0, (), ()), [], ())) := rfl
  have e3 : F20 ((false, ()), ((0, (), ()), [], ())) = some (false, ((0, (), ()), [], (0, (), ()), [], ())) := rfl
  simp only [Option.bind_some, decide_true, Bool.true_and, cond_true, e1, e2, e3, List.length_nil, agr_self]
  rfl
end Go.Pl
