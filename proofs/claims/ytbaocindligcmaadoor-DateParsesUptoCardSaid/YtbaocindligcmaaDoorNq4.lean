/- The walk of a reader. -/
import Derived.Test.YtbaocindligcmaaDoorNq1
import Derived.Test.YtbaocindligcmaaDoorDS
namespace Go.Dt
open Go Go.Ev
set_option maxRecDepth 100000

variable {l : Ls} {a : Nat} {w y m d s z k : Int}

theorem F13_eq (l : Ls) (a : Nat) (w y m d s z k : Int) : F13 (((), ()), ((l, (a : Int), w, y, m, d, s, z, k, ()), ())) = some (peek l a, ((l, (a : Int), w, y, m, d, s, z, k, ()), ())) := by
  have d0 : decide ((0 : Int) ≤ (a : Int)) = true := by simp
  by_cases h : a < l.length
  · have d1 : decide ((a : Int) < ((l.length : Nat) : Int)) = true := by simp; omega
    simp only [F13, d0, d1, Bool.and_self, cond_true, Int.toNat_natCast, peek]
  · have d1 : decide ((a : Int) < ((l.length : Nat) : Int)) = false := by simp; omega
    simp only [F13, d1, cond_false, peek]
    rw [List.getD_eq_getElem?_getD, List.getElem?_eq_none (by omega)]
    rfl

def stopw (l : Ls) (a : Nat) (w : Int) : Int := if w = 0 then (if a = l.length then 3 else 4) else w

theorem F62_eq (l : Ls) (a : Nat) (w y m d s z k : Int) : F62 (((), ()), ((l, (a : Int), w, y, m, d, s, z, k, ()), ())) = some ((), ((l, (a : Int), stopw l a w, y, m, d, s, z, k, ()), ())) := by
  unfold stopw
  by_cases h : w = 0
  · subst h
    by_cases h1 : a = l.length
    · have d1 : decide ((a : Int) = ((l.length : Nat) : Int)) = true := by simp; omega
      simp only [F62, decide_true, d1, cond_true, if_pos h1, if_true]
    · have d1 : decide ((a : Int) = ((l.length : Nat) : Int)) = false := by simp; omega
      simp only [F62, decide_true, d1, cond_true, cond_false, if_neg h1, if_true]
  · have d1 : decide (w = 0) = false := by simpa using h
    simp only [F62, d1, cond_false, if_neg h]

/-- A letter is taken, or not. -/
theorem tk_yes {f : List UInt8 → Bool} (h : w = 0) (h1 : peek l a ≠ []) (h2 : f (peek l a) = true) : tk f l a w = (peek l a, a + 1, 0) := by
  unfold tk; rw [if_pos ⟨h, h1, h2⟩]

theorem tk_no {f : List UInt8 → Bool} (h : ¬ (w = 0 ∧ peek l a ≠ [] ∧ f (peek l a) = true)) : tk f l a w = ([], a, stopw l a w) := by
  unfold tk; rw [if_neg h]; rfl

theorem F16_eq (hl : l.length ≤ 2000000) (ha : a ≤ l.length) (c : List UInt8) :
    F16 (((), c, ()), ((l, (a : Int), w, y, m, d, s, z, k, ()), ())) = some ((), ((l, ((tk (fun x => decide (x = c)) l a w).2.1 : Int), (tk (fun x => decide (x = c)) l a w).2.2, y, m, d, s, z, k, ()), ())) := by
  have wa : w64 ((a : Int) + 1) = ((a + 1 : Nat) : Int) := by rw [w64_id (by omega) (by omega)]; rfl
  by_cases h : w = 0 ∧ peek l a ≠ []
  · obtain ⟨rfl, hne⟩ := h
    have c3 : decide (peek l a = []) = false := by simpa using hne
    by_cases h2 : peek l a = c
    · rw [tk_yes rfl hne (by simpa using h2)]
      have c2 : decide (peek l a = c) = true := by simpa using h2
      simp only [F16, F13_eq, Option.bind_some, decide_true, Bool.not_true, Bool.false_or, c3, Bool.not_false, cond_true, c2, cond_false, wa]
    · rw [tk_no (fun hh => h2 (by simpa using hh.2.2))]
      have c2 : decide (peek l a = c) = false := by simpa using h2
      simp only [F16, F13_eq, Option.bind_some, decide_true, Bool.not_true, Bool.false_or, c3, Bool.not_false, cond_true, c2, F62_eq]
  · have c1 : (!((!decide (w = 0)) || decide (peek l a = []))) = false := by
      by_cases h1 : w = 0
      · have : peek l a = [] := Classical.byContradiction fun h2 => h ⟨h1, h2⟩
        simp [h1, this]
      · simp [h1]
    rw [tk_no (fun hh => h ⟨hh.1, hh.2.1⟩)]
    simp only [F16, F13_eq, Option.bind_some, c1, cond_false, F62_eq]

theorem F12_eq (c : List UInt8) : F12 ((c, ()), ()) = some (isdig c, ()) := by
  by_cases h : c.length = 1
  · have d1 : decide (((c.length : Nat) : Int) = 1) = true := by simp; omega
    have d2 : decide ((0 : Int) < ((c.length : Nat) : Int)) = true := by simp; omega
    have d3 : decide (c.length = 1) = true := by simpa using h
    simp only [F12, d1, d2, Bool.true_or, cond_true, isdig, d3, Bool.true_and]
    rfl
  · have d1 : decide (((c.length : Nat) : Int) = 1) = false := by simp; omega
    have d3 : decide (c.length = 1) = false := by simpa using h
    simp only [F12, d1, Bool.not_false, Bool.or_true, Bool.false_and, cond_true, isdig, d3]

theorem isdig_val {c : List UInt8} (h : isdig c = true) : c ≠ [] ∧ 0 ≤ dval c ∧ dval c ≤ 9 := by
  simp only [isdig, Bool.and_eq_true, decide_eq_true_eq] at h
  refine ⟨fun h1 => by rw [h1] at h; simp at h, ?_⟩
  unfold dval
  generalize c.getD 0 0 = b at h ⊢
  have h1 : (48 : UInt8) ≤ b := by rw [UInt8.le_iff_toNat_le]; exact h.1.2
  have : (b - 48).toNat = b.toNat - 48 := UInt8.toNat_sub_of_le _ _ h1
  omega

end Go.Dt

namespace Go.Dt
open Go Go.Ev
set_option maxRecDepth 100000

variable {l : Ls} {a : Nat} {w y m d s z q : Int}

theorem scale_eq (n k b v x1 x2 x3 x4 x5 x6 x7 x8 : Int) (l : Ls) {j : Nat} (hj : j ≤ 3) : L19_1 (((), n, (), (), (), n, k, (j : Int), 0, ()), ((l, x1, x2, x3, x4, x5, x6, x7, x8, ()), (b, ()), (v, ()), (1, ()), ())) =
    some (((), n, (), (), (), n, k, ()), ((l, x1, x2, x3, x4, x5, x6, x7, x8, ()), (b, ()), (v, ()), ((10 : Int) ^ j, ()), ())) := by
  have h : j = 0 ∨ j = 1 ∨ j = 2 ∨ j = 3 := by omega
  rcases h with rfl | rfl | rfl | rfl
  · show L19_1 _ = _
    kernel_rfl
  · show L19_1 _ = _
    kernel_rfl
  · show L19_1 _ = _
    kernel_rfl
  · show L19_1 _ = _
    kernel_rfl

theorem F44_eq {c : List UInt8} {v b : Int} {j : Nat} (hj : j ≤ 3) (hv : 0 ≤ v) (hv2 : v ≤ 1000) : F44 ((c, (), (), (), ()), ((v, ()), ((10 : Int) ^ j, ()), (b, ()), ())) =
    some (isdig c && decide ((v * 10 + dval c) * 10 ^ j < b), ((v, ()), ((10 : Int) ^ j, ()), (b, ()), ())) := by
  have hp : (10 : Int) ^ j = 1 ∨ (10 : Int) ^ j = 10 ∨ (10 : Int) ^ j = 100 ∨ (10 : Int) ^ j = 1000 := by
    have h : j = 0 ∨ j = 1 ∨ j = 2 ∨ j = 3 := by omega
    rcases h with rfl | rfl | rfl | rfl <;> simp
  simp only [F44, F12_eq, Option.bind_some]
  cases hd : isdig c with
  | false => simp only [Bool.not_false, Bool.or_true, cond_true, Bool.false_and]
  | true =>
    obtain ⟨h1, h2, h3⟩ := isdig_val hd
    have d1 : decide ((0 : Int) < ((c.length : Nat) : Int)) = true := by
      have : 0 < c.length := List.length_pos_iff.2 h1
      simpa using this
    have hdv : ((UInt8.toNat (c.getD 0 0 - 48) : Nat) : Int) = dval c := rfl
    rw [hdv, w64_id (n := v * 10) (by omega) (by omega), w64_id (n := v * 10 + dval c) (by omega) (by omega)]
    have hm : w64 ((v * 10 + dval c) * (10 : Int) ^ j) = (v * 10 + dval c) * 10 ^ j := by
      rcases hp with h | h | h | h <;> rw [h] <;> exact w64_id (by omega) (by omega)
    simp only [d1, hm, Bool.true_or, cond_true]

theorem b49_step {n k j : Nat} {v b : Int} (hl : l.length ≤ 2000000) (ha : a ≤ l.length) (hn : n ≤ 4) (hk : k < n) (hj : n = k + 1 + j) (hv : 0 ≤ v) (hv2 : v ≤ 1000) :
    B19_0 (((), (n : Int), (), (), (n : Int), (k : Int), ()), ((l, (a : Int), w, y, m, d, s, z, q, ()), (b, ()), (v, ()), ())) =
    some (Sum.inl (((), (n : Int), (), (), (n : Int), ((k + 1 : Nat) : Int), ()), ((l, ((tk (fun c => isdig c && decide ((v * 10 + dval c) * 10 ^ j < b)) l a w).2.1 : Int), (tk (fun c => isdig c && decide ((v * 10 + dval c) * 10 ^ j < b)) l a w).2.2, y, m, d, s, z, q, ()), (b, ()),
      (if (tk (fun c => isdig c && decide ((v * 10 + dval c) * 10 ^ j < b)) l a w).1 = [] then v else v * 10 + dval (tk (fun c => isdig c && decide ((v * 10 + dval c) * 10 ^ j < b)) l a w).1, ()), ()))) := by
  have wa : w64 ((a : Int) + 1) = ((a + 1 : Nat) : Int) := by rw [w64_id (by omega) (by omega)]; rfl
  have wk : w64 ((k : Int) + 1) = ((k + 1 : Nat) : Int) := by rw [w64_id (by omega) (by omega)]; rfl
  have w1 : w64 ((n : Int) - 1) = (n : Int) - 1 := w64_id (by omega) (by omega)
  have w2 : w64 ((n : Int) - 1 - k) = (j : Int) := by rw [w64_id (by omega) (by omega)]; omega
  have c0 : decide ((k : Int) < (n : Int)) = true := by simp; omega
  by_cases h : w = 0 ∧ peek l a ≠ []
  · obtain ⟨rfl, hne⟩ := h
    have c3 : decide (peek l a = []) = false := by simpa using hne
    by_cases h2 : (isdig (peek l a) && decide ((v * 10 + dval (peek l a)) * 10 ^ j < b)) = true
    · rw [tk_yes rfl hne h2]
      have hd : isdig (peek l a) = true := by rw [Bool.and_eq_true] at h2; exact h2.1
      obtain ⟨_, hd2, hd3⟩ := isdig_val hd
      have d1 : decide ((0 : Int) < (((peek l a).length : Nat) : Int)) = true := by
        have : 0 < (peek l a).length := List.length_pos_iff.2 hne
        simpa using this
      have hdv : ((UInt8.toNat ((peek l a).getD 0 0 - 48) : Nat) : Int) = dval (peek l a) := rfl
      have w3 : w64 (v * 10) = v * 10 := w64_id (by omega) (by omega)
      have w4 : w64 (v * 10 + dval (peek l a)) = v * 10 + dval (peek l a) := w64_id (by omega) (by omega)
      simp only [B19_0, c0, cond_true, w1, w2, scale_eq _ _ _ _ _ _ _ _ _ _ _ _ l (show j ≤ 3 by omega), Option.bind_some, F13_eq, decide_true, Bool.false_or, F44_eq (show j ≤ 3 by omega) hv hv2, h2, Bool.not_true, cond_false, c3, Bool.not_false, d1, wa, wk, hdv, w3, w4, if_neg hne]
    · have h2' : (isdig (peek l a) && decide ((v * 10 + dval (peek l a)) * 10 ^ j < b)) = false := by simpa using h2
      rw [tk_no (fun hh => h2 hh.2.2)]
      simp only [B19_0, c0, cond_true, w1, w2, scale_eq _ _ _ _ _ _ _ _ _ _ _ _ l (show j ≤ 3 by omega), Option.bind_some, F13_eq, decide_true, Bool.not_true, Bool.false_or, c3, F44_eq (show j ≤ 3 by omega) hv hv2, h2', Bool.not_false, cond_true, F62_eq, wk, if_true]
  · have c1 : (!((!decide (w = 0)) || decide (peek l a = []))) = false := by
      by_cases h1 : w = 0
      · have : peek l a = [] := Classical.byContradiction fun h2 => h ⟨h1, h2⟩
        simp [h1, this]
      · simp [h1]
    rw [tk_no (fun hh => h ⟨hh.1, hh.2.1⟩)]
    simp only [B19_0, c0, cond_true, w1, w2, scale_eq _ _ _ _ _ _ _ _ _ _ _ _ l (show j ≤ 3 by omega), Option.bind_some, F13_eq, c1, cond_false, F62_eq, wk, if_true]

theorem tk_val {f : List UInt8 → Bool} (h : (tk f l a w).1 ≠ []) : f (tk f l a w).1 = true := by
  unfold tk at h ⊢
  split
  · next hc => exact hc.2.2
  · next hc => rw [if_neg hc] at h; exact absurd rfl h

theorem F19_eq {n : Nat} {b : Int} (hn : n ≤ 4) (hl : l.length ≤ 2000000) (ha : a ≤ l.length) : F19 (((), (n : Int), b, ()), ((l, (a : Int), w, y, m, d, s, z, q, ()), ())) =
    some ((nm b l n 0 a w).1, ((l, ((nm b l n 0 a w).2.1 : Int), (nm b l n 0 a w).2.2, y, m, d, s, z, q, ()), ())) ∧ (nm b l n 0 a w).2.1 ≤ l.length := by
  obtain ⟨r, h1, h2, h3⟩ := loop_ind (f := B19_0) (fun p => ∃ (k j a' : Nat) (w' v : Int), p = (((), (n : Int), (), (), (n : Int), (k : Int), ()), ((l, (a' : Int), w', y, m, d, s, z, q, ()), (b, ()), (v, ()), ())) ∧ n = k + j ∧ a' ≤ l.length ∧
      0 ≤ v ∧ v < 10 ^ k ∧ nm b l j v a' w' = nm b l n 0 a w) (fun p => ((n : Int) - p.1.2.2.2.2.2.1).toNat)
    (fun r => r = (((), (), ()), ((l, ((nm b l n 0 a w).2.1 : Int), (nm b l n 0 a w).2.2, y, m, d, s, z, q, ()), ((nm b l n 0 a w).1, ()), ())) ∧ (nm b l n 0 a w).2.1 ≤ l.length)
    (fun p ⟨k, j, a', w', v, hp, hk, ha', hv, hv2, hnm⟩ => by
      subst hp
      cases j with
      | zero =>
        right
        have c0 : decide ((k : Int) < (n : Int)) = false := by simp; omega
        rw [← hnm]
        exact ⟨_, by simp only [B19_0, c0, cond_false] <;> rfl, rfl, ha'⟩
      | succ j =>
        left
        have hv3 : v ≤ 1000 := by
          have h : k = 0 ∨ k = 1 ∨ k = 2 ∨ k = 3 := by omega
          rcases h with rfl | rfl | rfl | rfl <;> simp at hv2 <;> omega
        refine ⟨_, b49_step (k := k) (j := j) hl ha' hn (by omega) (by omega) hv hv3, ⟨k + 1, j, _, _, _, rfl, (by omega : n = k + 1 + j), tk_le _ ha', ?_, ?_, by rw [← hnm]; rfl⟩, by simp only; omega⟩
        · split
          · exact hv
          · next hc =>
            have := tk_val hc
            rw [Bool.and_eq_true] at this
            have := (isdig_val this.1).2.1
            omega
        · rw [Int.pow_succ]
          split
          · omega
          · next hc =>
            have := tk_val hc
            rw [Bool.and_eq_true] at this
            have := (isdig_val this.1).2.2
            omega)
    (p := (((), (n : Int), (), (), (n : Int), 0, ()), ((l, (a : Int), w, y, m, d, s, z, q, ()), (b, ()), (0, ()), ()))) ⟨0, n, a, w, 0, rfl, by omega, ha, by omega, by simp, rfl⟩ (by unfold FUEL; simp only; omega)
  subst h2
  refine ⟨?_, h3⟩
  have h1' : L19_0 (((), (n : Int), (), (), (n : Int), 0, ()), ((l, (a : Int), w, y, m, d, s, z, q, ()), (b, ()), (0, ()), ())) = some (((), (), ()), ((l, ((nm b l n 0 a w).2.1 : Int), (nm b l n 0 a w).2.2, y, m, d, s, z, q, ()), ((nm b l n 0 a w).1, ()), ())) := h1
  simp only [F19, h1', Option.bind_some]

end Go.Dt

namespace Go.Dt
open Go Go.Ev
set_option maxRecDepth 100000

theorem getD_lt {s : List UInt8} {i : Nat} (h : i < s.length) : s.getD i 0 = s[i] := by
  rw [List.getD_eq_getElem?_getD, List.getElem?_eq_getElem h]; rfl

theorem getD_ltL {s : Ls} {i : Nat} (h : i < s.length) : s.getD i [] = s[i] := by
  rw [List.getD_eq_getElem?_getD, List.getElem?_eq_getElem h]; rfl

theorem take_snoc {α : Type} {l : List α} {n : Nat} (h : n < l.length) (d : α) : l.take (n + 1) = l.take n ++ [l.getD n d] := by
  rw [List.take_add_one, List.getD_eq_getElem?_getD, List.getElem?_eq_getElem h]; rfl

theorem getD_mid {α : Type} {a b : List α} {c d : α} {i : Nat} (h : i = a.length) : (a ++ c :: b).getD i d = c := by
  subst h
  simp [List.getD_eq_getElem?_getD]

theorem F61_eq {s : List UInt8} (hs : s.length ≤ 500) : F61 ((s, ()), ()) = some (low s, ()) := by
  obtain ⟨r, h1, h2⟩ := loop_ind (f := B61_0) (fun p => ∃ (i : Nat), p = (((), (), (s.length : Int), (i : Int), ()), (low (s.take i) ++ s.drop i, ())) ∧ i ≤ s.length) (fun p => ((s.length : Int) - p.1.2.2.2.1).toNat) (fun r => r = (((), ()), (low s, ())))
    (fun p ⟨i, hp, hi⟩ => by
      subst hp
      by_cases hlt : i < s.length
      · left
        have hll : (low (s.take i)).length = i := by simp [low]; omega
        have c1 : decide ((i : Int) < ((s.length : Nat) : Int)) = true := by simp; omega
        have c2 : decide ((0 : Int) ≤ (i : Int)) = true := by simp
        have c4 : decide ((i : Int) < (((low (s.take i) ++ s.drop i).length : Nat) : Int)) = true := by
          simp only [List.length_append, List.length_drop, hll, decide_eq_true_eq]; omega
        have wi : w64 ((i : Int) + 1) = ((i + 1 : Nat) : Int) := by rw [w64_id (by omega) (by omega)]; rfl
        have hd : s.drop i = s.getD i 0 :: s.drop (i + 1) := by rw [List.drop_eq_getElem_cons hlt, getD_lt hlt]
        have hg : (low (s.take i) ++ s.drop i).getD i 0 = s.getD i 0 := by
          rw [hd]; exact getD_mid hll.symm
        have hset : ∀ x, (low (s.take i) ++ s.drop i).set i x = low (s.take i) ++ x :: s.drop (i + 1) := fun x => by
          rw [hd, List.set_append_right _ _ (by omega), hll, Nat.sub_self]; rfl
        have hls : low (s.take (i + 1)) ++ s.drop (i + 1) = low (s.take i) ++ low1 (s.getD i 0) :: s.drop (i + 1) := by
          rw [take_snoc hlt 0]; simp [low]
        refine ⟨(((), (), (s.length : Int), ((i + 1 : Nat) : Int), ()), (low (s.take (i + 1)) ++ s.drop (i + 1), ())), ?_, ⟨i + 1, rfl, by omega⟩, by simp only; omega⟩
        rw [hls]
        unfold low1
        by_cases hc : 65 ≤ (s.getD i 0).toNat ∧ (s.getD i 0).toNat ≤ 90
        · have c3 : (decide (UInt8.toNat (65 : UInt8) ≤ (s.getD i 0).toNat) && decide ((s.getD i 0).toNat ≤ UInt8.toNat (90 : UInt8))) = true := by
            simpa using hc
          simp only [B61_0, c1, c2, c4, Bool.and_self, cond_true, Option.bind_some, Int.toNat_natCast, hg, c3, wi, if_pos hc, hset]
        · have c3 : (decide (UInt8.toNat (65 : UInt8) ≤ (s.getD i 0).toNat) && decide ((s.getD i 0).toNat ≤ UInt8.toNat (90 : UInt8))) = false := by
            rw [← Bool.decide_and, decide_eq_false_iff_not]; exact hc
          simp only [B61_0, c1, c2, c4, Bool.and_self, cond_true, cond_false, Option.bind_some, Int.toNat_natCast, hg, c3, wi, if_neg hc]
          rw [← hd]
      · right
        have c1 : decide ((i : Int) < ((s.length : Nat) : Int)) = false := by simp; omega
        exact ⟨_, by simp only [B61_0, c1, cond_false] <;> rfl, by rw [List.take_of_length_le (by omega), List.drop_of_length_le (by omega), List.append_nil]⟩)
    (p := (((), (), (s.length : Int), 0, ()), (s, ()))) ⟨0, rfl, Nat.zero_le _⟩ (by unfold FUEL; simp only; omega)
  subst h2
  have h1' : L61_0 (((), (), (s.length : Int), 0, ()), (s, ())) = some (((), ()), (low s, ())) := h1
  simp only [F61, h1', Option.bind_some]

theorem F40_eq {s t : List UInt8} (hs : s.length ≤ 500) (ht : t.length ≤ 500) : F40 ((s, t, ()), ()) = some (decide (low s = low t), ()) := by
  simp only [F40, F61_eq hs, F61_eq ht, Option.bind_some]

/-- Names that words are taken from. -/
structure Nms (names : Ls) : Prop where
  len : names.length ≤ 100
  each : ∀ x ∈ names, x.length ≤ 3

theorem F42_eq {names : Ls} (hN : Nms names) {k : Nat} (hk : k ≤ 10) {got c : List UInt8} (hg : got.length ≤ 400) (hc : c.length ≤ 400) :
    F42 ((c, (), (), (), ()), ((names, ()), ((k : Int), ()), (got, ()), ())) = some (goes names k got c, ((names, ()), ((k : Int), ()), (got, ()), ())) := by
  have wk : w64 ((k : Int) + 1) = ((k + 1 : Nat) : Int) := by rw [w64_id (by omega) (by omega)]; rfl
  obtain ⟨r, h1, h2⟩ := loop_ind (f := B42_0) (fun p => ∃ (i : Nat), p = ((c, (), (), (), names, (names.length : Int), (i : Int), ()), ((names, ()), ((k : Int), ()), (got, ()), ())) ∧ i ≤ names.length ∧ goes (names.drop i) k got c = goes names k got c)
    (fun p => ((names.length : Int) - p.1.2.2.2.2.2.2.1).toNat)
    (fun r => r = if goes names k got c then Sum.inr (((), (), (), (), ()), ((names, ()), ((k : Int), ()), (got, ()), ())) else Sum.inl (((), (), (), ()), ((names, ()), ((k : Int), ()), (got, ()), ())))
    (fun p ⟨i, hp, hi, hG⟩ => by
      subst hp
      by_cases hlt : i < names.length
      · have c1 : decide ((i : Int) < ((names.length : Nat) : Int)) = true := by simp; omega
        have c2 : decide ((0 : Int) ≤ (i : Int)) = true := by simp
        have c3 : decide ((0 : Int) ≤ (k : Int)) = true := by simp
        have wi : w64 ((i : Int) + 1) = ((i + 1 : Nat) : Int) := by have := hN.len; rw [w64_id (by omega) (by omega)]; rfl
        have hmem : names.getD i [] ∈ names := by rw [getD_ltL hlt]; exact List.getElem_mem hlt
        have hxl := hN.each _ hmem
        have hd : names.drop i = names.getD i [] :: names.drop (i + 1) := by rw [List.drop_eq_getElem_cons hlt, getD_ltL hlt]
        rw [hd] at hG
        have go : (decide (k < (names.getD i []).length) && decide (low ((names.getD i []).take k) = low got) && decide (low (((names.getD i []).drop k).take 1) = low c)) = goes [names.getD i []] k got c := by simp [goes]
        have gs : goes (names.getD i [] :: names.drop (i + 1)) k got c = (goes [names.getD i []] k got c || goes (names.drop (i + 1)) k got c) := by simp [goes]
        rw [gs] at hG
        have c4 : decide ((0 : Int) ≤ ((k : Nat) : Int)) = true := by simp
        by_cases hkx : k < (names.getD i []).length
        · have c5 : decide ((k : Int) < (((names.getD i []).length : Nat) : Int)) = true := decide_eq_true (by omega)
          have c6 : decide ((k : Int) ≤ (((names.getD i []).length : Nat) : Int)) = true := decide_eq_true (by omega)
          have c7 : decide ((k : Int) ≤ ((k + 1 : Nat) : Int)) = true := decide_eq_true (by omega)
          have c8 : decide (((k + 1 : Nat) : Int) ≤ (((names.getD i []).length : Nat) : Int)) = true := decide_eq_true (by omega)
          have e1 := F40_eq (s := (names.getD i []).take k) (t := got) (by rw [List.length_take]; omega) (by omega)
          have e2 := F40_eq (s := ((names.getD i []).drop k).take 1) (t := c) (by rw [List.length_take, List.length_drop]; omega) (by omega)
          have e3 : k + 1 - k = 1 := by omega
          have c9 : decide (k < (names.getD i []).length) = true := decide_eq_true hkx
          rw [c9, Bool.true_and] at go
          cases hA : decide (low ((names.getD i []).take k) = low got) with
          | true =>
            rw [hA, Bool.true_and] at go
            cases hB : decide (low (((names.getD i []).drop k).take 1) = low c) with
            | true =>
              right
              rw [hB] at go
              rw [← go, Bool.true_or] at hG
              rw [← hG]
              refine ⟨_, ?_, rfl⟩
              simp only [B42_0, Int.toNat_natCast, c1, c2, c4, c5, c6, wk, c7, c8, e1, e2, e3, hA, hB, Bool.and_self, Bool.true_or, cond_true, Option.bind_some, if_true]
            | false =>
              left
              rw [hB] at go
              rw [← go, Bool.false_or] at hG
              refine ⟨_, ?_, ⟨i + 1, rfl, by omega, hG⟩, by simp only; omega⟩
              simp only [B42_0, Int.toNat_natCast, c1, c2, c4, c5, c6, wk, c7, c8, e1, e2, e3, hA, hB, Bool.and_self, Bool.true_or, cond_true, cond_false, Option.bind_some, wi]
          | false =>
            left
            rw [hA, Bool.false_and] at go
            rw [← go, Bool.false_or] at hG
            refine ⟨_, ?_, ⟨i + 1, rfl, by omega, hG⟩, by simp only; omega⟩
            simp only [B42_0, Int.toNat_natCast, c1, c2, c4, c5, c6, e1, hA, Bool.and_self, Bool.true_or, Bool.not_false, Bool.or_true, cond_true, cond_false, Option.bind_some, wi]
        · left
          have c5 : decide ((k : Int) < (((names.getD i []).length : Nat) : Int)) = false := decide_eq_false (by omega)
          have c9 : decide (k < (names.getD i []).length) = false := decide_eq_false hkx
          rw [c9, Bool.false_and, Bool.false_and] at go
          rw [← go, Bool.false_or] at hG
          refine ⟨_, ?_, ⟨i + 1, rfl, by omega, hG⟩, by simp only; omega⟩
          simp only [B42_0, Int.toNat_natCast, c1, c2, c5, Bool.and_self, Bool.not_false, Bool.or_true, cond_true, cond_false, Option.bind_some, wi]
      · right
        have c1 : decide ((i : Int) < ((names.length : Nat) : Int)) = false := decide_eq_false (by omega)
        have hf : goes names k got c = false := by
          rw [← hG, List.drop_of_length_le (by omega)]; rfl
        rw [hf]
        exact ⟨_, by simp only [B42_0, c1, cond_false] <;> rfl, rfl⟩)
    (p := ((c, (), (), (), names, (names.length : Int), 0, ()), ((names, ()), ((k : Int), ()), (got, ()), ()))) ⟨0, rfl, Nat.zero_le _, rfl⟩ (by have := hN.len; unfold FUEL; simp only; omega)
  subst h2
  have h1' : L42_0 ((c, (), (), (), names, (names.length : Int), 0, ()), ((names, ()), ((k : Int), ()), (got, ()), ())) = some (if goes names k got c then Sum.inr (((), (), (), (), ()), ((names, ()), ((k : Int), ()), (got, ()), ())) else Sum.inl (((), (), (), ()), ((names, ()), ((k : Int), ()), (got, ()), ()))) := h1
  simp only [F42, h1', Option.bind_some]
  cases goes names k got c <;> rfl

end Go.Dt
