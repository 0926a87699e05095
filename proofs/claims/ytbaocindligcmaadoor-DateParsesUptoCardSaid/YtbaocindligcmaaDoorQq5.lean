/- The reference's values. -/
import Derived.Test.YtbaocindligcmaaDoorQq4
import Derived.Test.YtbaocindligcmaaDoorNq3
namespace Go.Dt
open Go Go.Ev
set_option maxRecDepth 100000

variable {l : Ls} {a : Nat}

theorem digs2 {b c : UInt8} (hb : b = 57 ∨ b = 50 ∨ b = 53) (hc : c = 57 ∨ c = 51) (h : (mt l [b, c] a).2 = true) : isdig (peek l a) = true ∧ isdig (peek l (a + 1)) = true ∧ a + 2 ≤ l.length := by
  obtain ⟨h1, h2⟩ := mt_split (p := [b]) (q := [c]) h
  have h1 := mt_one h1
  have h2 := mt_one h2
  refine ⟨?_, ?_, h2.1⟩
  · rcases hb with rfl | rfl | rfl
    · have := h1.2; rw [fit57] at this; exact this
    · have := h1.2; rw [fit50, Bool.and_eq_true] at this; exact this.1
    · have := h1.2; rw [fit53, Bool.and_eq_true] at this; exact this.1
  · rcases hc with rfl | rfl
    · have := h2.2; rw [fit57] at this; exact this
    · have := h2.2; rw [fit51, Bool.and_eq_true] at this; exact this.1

theorem digs4 (h : (mt l [57, 57, 57, 57] a).2 = true) : isdig (peek l a) = true ∧ isdig (peek l (a + 1)) = true ∧ isdig (peek l (a + 2)) = true ∧ isdig (peek l (a + 3)) = true ∧ a + 4 ≤ l.length := by
  obtain ⟨h1, h2⟩ := mt_split (p := [57, 57]) (q := [57, 57]) h
  obtain ⟨a1, a2, _⟩ := digs2 (.inl rfl) (.inl rfl) h1
  obtain ⟨a3, a4, a5⟩ := digs2 (.inl rfl) (.inl rfl) h2
  exact ⟨a1, a2, a3, a4, a5⟩

theorem dv_bound {l : Ls} : ∀ (n : Nat) {v : Int} {a : Nat}, (∀ i, i < n → isdig (peek l (a + i)) = true) → 0 ≤ v → 0 ≤ dv l n v a ∧ dv l n v a + 1 ≤ (v + 1) * 10 ^ n
  | 0, v, a, _, h => ⟨h, by simp [dv]⟩
  | n + 1, v, a, hd, h => by
    have h0 := isdig_val (hd 0 (by omega))
    rw [Nat.add_zero] at h0
    have ih := dv_bound n (v := v * 10 + dval (peek l a)) (a := a + 1) (fun i hi => by rw [show a + 1 + i = a + (i + 1) by omega]; exact hd (i + 1) (by omega)) (by omega)
    simp only [dv]
    refine ⟨ih.1, Int.le_trans ih.2 ?_⟩
    have hp : (0 : Int) ≤ 10 ^ n := Int.pow_nonneg (by omega)
    rw [Int.pow_succ, Int.mul_comm (10 ^ n) 10, ← Int.mul_assoc]
    exact Int.mul_le_mul_of_nonneg_right (by omega) hp

/-- The reference's number. -/
theorem F29_eq' (hl : l.length ≤ 2000000) {n : Nat} (hn : n ≤ 4) (ha : a + n ≤ l.length) (hd : ∀ i, i < n → isdig (peek l (a + i)) = true) : F29 ((l, (a : Int), (n : Int), ()), ()) = some (dv l n 0 a, ()) := by
  have wt : w64 ((a : Int) + (n : Int)) = ((a + n : Nat) : Int) := by rw [w64_id (by omega) (by omega)]; rfl
  generalize hT : dv l n 0 a = T
  obtain ⟨r, h1, h2⟩ := loop_ind (f := B29_0) (fun p => ∃ (i j : Nat) (v : Int), p = ((l, (a : Int), (n : Int), v, ((a + i : Nat) : Int), ()), ()) ∧ i + j = n ∧ 0 ≤ v ∧ v + 1 ≤ 10 ^ i ∧ dv l j v (a + i) = T) (fun p => ((a : Int) + n - p.1.2.2.2.2.1).toNat) (fun r => r = ((T, ()), ()))
    (fun p ⟨i, j, v, hp, hij, hv, hv2, hb⟩ => by
      subst hp
      cases j with
      | zero =>
        right
        have c1 : decide (((a + i : Nat) : Int) < ((a + n : Nat) : Int)) = false := decide_eq_false (by omega)
        simp only [dv] at hb
        exact ⟨_, by simp only [B29_0, wt, c1, cond_false] <;> rfl, by rw [hb]⟩
      | succ j =>
        left
        have c1 : decide (((a + i : Nat) : Int) < ((a + n : Nat) : Int)) = true := decide_eq_true (by omega)
        have c2 : decide ((0 : Int) ≤ ((a + i : Nat) : Int)) = true := decide_eq_true (by omega)
        have c3 : decide (((a + i : Nat) : Int) < ((l.length : Nat) : Int)) = true := decide_eq_true (by omega)
        have hdi := hd i (by omega)
        have hne := (isdig_val hdi).1
        have hlp : 0 < (l.getD (a + i) []).length := List.length_pos_iff.2 hne
        have c4 : decide ((0 : Int) < (((l.getD (a + i) []).length : Nat) : Int)) = true := decide_eq_true (by omega)
        have wi : w64 (((a + i : Nat) : Int) + 1) = ((a + (i + 1) : Nat) : Int) := by rw [w64_id (by omega) (by omega)]; omega
        have hv3 := dval_eq hdi
        have hi4 : i = 0 ∨ i = 1 ∨ i = 2 ∨ i = 3 := by omega
        have hvb : v ≤ 1000 := by rcases hi4 with rfl | rfl | rfl | rfl <;> simp at hv2 <;> omega
        have he : w64 (w64 (w64 (10 * v) + ((((l.getD (a + i) []).getD 0 0).toNat : Nat) : Int)) - 48) = v * 10 + dval (peek l (a + i)) := by
          have h3 : dval (peek l (a + i)) = ((((l.getD (a + i) []).getD 0 0).toNat : Nat) : Int) - 48 := hv3.1
          have h4 : ((l.getD (a + i) []).getD 0 0).toNat ≤ 57 := hv3.2.2
          rw [h3, w64_id (n := 10 * v) (by omega) (by omega), w64_id (n := 10 * v + _) (by omega) (by omega), w64_id (by omega) (by omega)]
          omega
        have hvd := isdig_val hdi
        refine ⟨((l, (a : Int), (n : Int), v * 10 + dval (peek l (a + i)), ((a + (i + 1) : Nat) : Int), ()), ()), ?_, ⟨i + 1, j, _, rfl, by omega, by omega, by rw [Int.pow_succ]; omega, ?_⟩, by simp only; omega⟩
        · simp only [B29_0, wt, c1, c2, c3, Bool.and_self, cond_true, Int.toNat_natCast, c4, he, Option.bind_some, wi]
        · rw [← hb]; rfl)
    (p := ((l, (a : Int), (n : Int), 0, (a : Int), ()), ())) ⟨0, n, 0, rfl, by omega, by omega, by simp, hT⟩ (by unfold FUEL; simp only; omega)
  subst h2
  have h1' : L29_0 ((l, (a : Int), (n : Int), 0, (a : Int), ()), ()) = some ((T, ()), ()) := h1
  simp only [F29, h1', Option.bind_some]

/-- The reference's name. -/
theorem F27_eq' (hg : Good l) (hl : l.length ≤ 2000000) {names : Ls} (hN : Nm3 names) (ha : a + 3 ≤ l.length) {k : Nat} (hk : hit names 3 (peek l a ++ peek l (a + 1) ++ peek l (a + 2)) = some k) : F27 ((l, (a : Int), names, ()), ()) = some ((k : Int), ()) := by
  unfold hit at hk
  rw [List.findIdx?_eq_some_iff_getElem] at hk
  obtain ⟨hkl, hk1, hk2⟩ := hk
  simp only [Bool.and_eq_true, decide_eq_true_eq] at hk1 hk2
  have hnl := hN.nms.len
  have w1 : w64 ((a : Int) + 1) = ((a + 1 : Nat) : Int) := by rw [w64_id (by omega) (by omega)]; rfl
  have w2 : w64 ((a : Int) + 2) = ((a + 2 : Nat) : Int) := by rw [w64_id (by omega) (by omega)]; rfl
  have pl : ∀ i, i < l.length → (l.getD i []).length ≤ 4 := fun i hi => by rw [getD_ltL hi]; exact hg.le _ (List.getElem_mem _)
  have p1 := pl a (by omega)
  have p2 := pl (a + 1) (by omega)
  have p3 := pl (a + 2) (by omega)
  have b0 : decide ((0 : Int) ≤ (a : Int)) = true := decide_eq_true (by omega)
  have b1 : decide ((a : Int) < ((l.length : Nat) : Int)) = true := decide_eq_true (by omega)
  have b2 : decide ((0 : Int) ≤ ((a + 1 : Nat) : Int)) = true := decide_eq_true (by omega)
  have b3 : decide (((a + 1 : Nat) : Int) < ((l.length : Nat) : Int)) = true := decide_eq_true (by omega)
  have b4 : decide ((0 : Int) ≤ ((a + 2 : Nat) : Int)) = true := decide_eq_true (by omega)
  have b5 : decide (((a + 2 : Nat) : Int) < ((l.length : Nat) : Int)) = true := decide_eq_true (by omega)
  have f1 : fits ((l.getD a []).length + (l.getD (a + 1) []).length) = true := fits_true (by omega)
  have f2 : fits ((l.getD a [] ++ l.getD (a + 1) []).length + (l.getD (a + 2) []).length) = true := fits_true (by rw [List.length_append]; omega)
  have e1 := F50_eq (s := l.getD a [] ++ l.getD (a + 1) [] ++ l.getD (a + 2) []) (by rw [List.length_append, List.length_append]; omega)
  obtain ⟨r, h1, h2⟩ := loop_ind (f := B27_0) (fun p => ∃ (i : Nat), p = ((l, (a : Int), names, (i : Int), ()), ()) ∧ i ≤ k) (fun p => ((names.length : Int) - p.1.2.2.2.1).toNat) (fun r => r = Sum.inr (((k : Int), ()), ()))
    (fun p ⟨i, hp, hi⟩ => by
      subst hp
      have hil : i < names.length := by omega
      have c1 : decide ((i : Int) < ((names.length : Nat) : Int)) = true := decide_eq_true (by omega)
      have c2 : decide ((0 : Int) ≤ (i : Int)) = true := decide_eq_true (by omega)
      have wi : w64 ((i : Int) + 1) = ((i + 1 : Nat) : Int) := by rw [w64_id (by omega) (by omega)]; rfl
      have hxl : (names.getD i []).length = 3 := by rw [getD_ltL hil]; exact hN.len _ (List.getElem_mem _)
      have e2 := F50_eq (s := names.getD i []) (by omega)
      by_cases hik : i = k
      · right
        subst hik
        have c3 : decide (low (l.getD a [] ++ l.getD (a + 1) [] ++ l.getD (a + 2) []) = low (names.getD i [])) = true := decide_eq_true (by rw [getD_ltL hil]; exact hk1.2.symm)
        exact ⟨_, by simp only [B27_0, c1, cond_true, b0, b1, w1, b2, b3, w2, b4, b5, Bool.and_self, Int.toNat_natCast, f1, f2, c2, e1, e2, Option.bind_some, c3] <;> rfl, rfl⟩
      · left
        have c3 : decide (low (l.getD a [] ++ l.getD (a + 1) [] ++ l.getD (a + 2) []) = low (names.getD i [])) = false := decide_eq_false fun he => by
          refine hk2 i (by omega) ⟨?_, ?_⟩
          · rw [← getD_ltL hil]; exact hxl
          · rw [← getD_ltL hil]; exact he.symm
        refine ⟨_, ?_, ⟨i + 1, rfl, by omega⟩, by simp only; omega⟩
        simp only [B27_0, c1, cond_true, cond_false, b0, b1, w1, b2, b3, w2, b4, b5, Bool.and_self, Int.toNat_natCast, f1, f2, c2, e1, e2, Option.bind_some, c3, wi])
    (p := ((l, (a : Int), names, 0, ()), ())) ⟨0, rfl, Nat.zero_le _⟩ (by unfold FUEL; simp only; omega)
  subst h2
  have h1' : L27_0 ((l, (a : Int), names, 0, ()), ()) = some (Sum.inr (((k : Int), ()), ())) := h1
  simp only [F27, h1', Option.bind_some]

theorem F26_eq' (l : Ls) (far : Nat) : F26 ((l, (far : Int), ()), ()) = some (((far : Int), (if far = l.length then 3 else 4), ()), ()) := by
  by_cases h : far = l.length
  · have c : decide ((far : Int) = ((l.length : Nat) : Int)) = true := decide_eq_true (by omega)
    simp only [F26, c, cond_true, if_pos h]
  · have c : decide ((far : Int) = ((l.length : Nat) : Int)) = false := decide_eq_false (by omega)
    simp only [F26, c, cond_false, if_neg h]

/-- A pattern that parts from another one where it does not fit. -/
theorem dom {c p' q' : List UInt8} {x : UInt8} (h : (mt l c 0).2 = true → ¬ (c.length < l.length ∧ fitS l c.length x = true)) : full l (c ++ x :: p') = false ∧ (mt l (c ++ x :: p') 0).1 ≤ (mt l (c ++ q') 0).1 := by
  have key : (mt l (c ++ x :: p') 0).2 = false ∧ (mt l (c ++ x :: p') 0).1 ≤ (mt l (c ++ q') 0).1 := by
    rw [mt_append, mt_append]
    cases hc : (mt l c 0).2 with
    | true =>
      rw [if_pos rfl, if_pos rfl, Nat.zero_add]
      simp only [mt]
      rw [if_neg (h hc)]
      exact ⟨rfl, (mt_le l q' c.length).1⟩
    | false =>
      rw [if_neg (by simp), if_neg (by simp)]
      exact ⟨hc, Nat.le_refl _⟩
  refine ⟨?_, key.2⟩
  have := mt_false key.1
  unfold full
  rw [Bool.and_eq_false_iff]
  right
  exact decide_eq_false (by omega)

theorem full_true {q : List UInt8} (h : full l q = true) : (mt l q 0).2 = true ∧ (mt l q 0).1 = l.length ∧ q.length = l.length := by
  unfold full at h
  rw [Bool.and_eq_true, decide_eq_true_eq, decide_eq_true_eq] at h
  refine ⟨?_, h.1, by omega⟩
  cases hm : (mt l q 0).2
  · have := mt_false hm; omega
  · rfl

/-- the place and the fault of letters that are no pattern, whole -/
theorem end_cases (q : List UInt8) : (full l q = true ∧ (st l (mt l q 0)).2 = 0 ∧ (st l (mt l q 0)).1 = l.length) ∨
    (full l q = false ∧ ((st l (mt l q 0)).2 = 0 ∧ (st l (mt l q 0)).1 < l.length ∨ (st l (mt l q 0)).2 = (if (mt l q 0).1 = l.length then 3 else 4) ∧ (mt l q 0).2 = false)) := by
  cases hm : (mt l q 0).2 with
  | true =>
    have h1 := mt_true hm
    have h2 := mt_len (l := l) (p := q) (Nat.zero_le _)
    rw [st_true hm]
    by_cases he : (mt l q 0).1 = l.length
    · left
      refine ⟨?_, rfl, he⟩
      unfold full
      rw [decide_eq_true he, decide_eq_true (by omega)]; rfl
    · right
      refine ⟨?_, .inl ⟨rfl, by simp only; omega⟩⟩
      unfold full
      rw [decide_eq_false he]; rfl
  | false =>
    right
    refine ⟨?_, .inr ⟨?_, rfl⟩⟩
    · cases hf : full l q
      · rfl
      · have := (full_true hf).1; rw [hm] at this; cases this
    · unfold st; rw [hm]; simp

end Go.Dt

namespace Go.Dt
open Go Go.Ev
set_option maxRecDepth 100000

variable {l : Ls} {a : Nat}

theorem hit_lt {names : Ls} {k n : Nat} {g : List UInt8} (h : hit names n g = some k) : k < names.length := by
  unfold hit at h
  rw [List.findIdx?_eq_some_iff_getElem] at h
  exact h.1

theorem months_len : months.length = 12 := rfl
theorem weeks_len : weeks.length = 7 := rfl

def PD : Ls := [[57, 45, 77, 77, 77, 45, 57, 57, 57, 57], [57, 57, 45, 77, 77, 77, 45, 57, 57, 57, 57]]

theorem uniq2 {p q : List UInt8} {l : Ls} (hp : full l p = false) {i : Nat} {x : List UInt8} (h : [p, q][i]? = some x) (hf : full l x = true) : i = 1 := by
  match i, h with
  | 0, h => simp at h; subst h; rw [hp] at hf; cases hf
  | 1, _ => rfl

theorem uniq1 {p q : List UInt8} {l : Ls} (hq : full l q = false) {i : Nat} {x : List UInt8} (h : [p, q][i]? = some x) (hf : full l x = true) : i = 0 := by
  match i, h with
  | 0, _ => rfl
  | 1, h => simp at h; subst h; rw [hq] at hf; cases hf

theorem bst_day (l : Ls) : ∃ n : Nat, (n = 1 ∨ n = 2) ∧ dq l 0 = List.replicate n 57 ∧ bst l PD 0 0 = if full l (dayQ l) = true then (((n - 1 : Nat) : Int), (mt l (dayQ l) 0).1) else (-1, (mt l (dayQ l) 0).1) := by
  by_cases hd : isdig (peek l 1) = true
  · have hq : dq l 0 = [57, 57] := by unfold dq; rw [if_pos (by simpa using hd)]
    have hQ : dayQ l = [57, 57, 45, 77, 77, 77, 45, 57, 57, 57, 57] := by unfold dayQ; rw [hq]; rfl
    have hD := dom (l := l) (c := [57]) (p' := [77, 77, 77, 45, 57, 57, 57, 57]) (q' := [57, 45, 77, 77, 77, 45, 57, 57, 57, 57]) (x := 45) (fun _ hh => by
      have h2 := hh.2
      rw [fit_own (by decide)] at h2
      have h3 : peek l 1 = [45] := of_decide_eq_true h2
      rw [h3] at hd; exact absurd hd (by decide))
    have := bst_of (l := l) (all := PD) (k := 0) (far := 0) (q := [57, 57, 45, 77, 77, 77, 45, 57, 57, 57, 57]) (kq := 1) rfl (fun p hp => by
      rcases List.mem_cons.1 hp with rfl | hp
      · exact hD.2
      · rcases List.mem_cons.1 hp with rfl | hp
        · exact Nat.le_refl _
        · cases hp) (fun i p hi hf => uniq2 hD.1 hi hf) (Nat.zero_le _)
    exact ⟨2, .inr rfl, hq, by rw [hQ]; exact this⟩
  · have hq : dq l 0 = [57] := by unfold dq; rw [if_neg (by simpa using hd)]
    have hQ : dayQ l = [57, 45, 77, 77, 77, 45, 57, 57, 57, 57] := by unfold dayQ; rw [hq]; rfl
    have hD := dom (l := l) (c := [57]) (p' := [45, 77, 77, 77, 45, 57, 57, 57, 57]) (q' := [45, 77, 77, 77, 45, 57, 57, 57, 57]) (x := 57) (fun _ hh => by
      have h2 := hh.2
      rw [fit57] at h2
      exact hd h2)
    have := bst_of (l := l) (all := PD) (k := 0) (far := 0) (q := [57, 45, 77, 77, 77, 45, 57, 57, 57, 57]) (kq := 0) rfl (fun p hp => by
      rcases List.mem_cons.1 hp with rfl | hp
      · exact Nat.le_refl _
      · rcases List.mem_cons.1 hp with rfl | hp
        · exact hD.2
        · cases hp) (fun i p hi hf => uniq1 hD.1 hi hf) (Nat.zero_le _)
    exact ⟨1, .inl rfl, hq, by rw [hQ]; exact this⟩

theorem dq_digs {n : Nat} (hn : n = 1 ∨ n = 2) (hq : dq l a = List.replicate n 57) (hm : (mt l (dq l a) a).2 = true) : ∀ i, i < n → isdig (peek l (a + i)) = true := by
  rw [hq] at hm
  rcases hn with rfl | rfl
  · have := (mt_one (b := 57) hm).2
    rw [fit57] at this
    intro i hi
    obtain rfl : i = 0 := by omega
    exact this
  · have := digs2 (b := 57) (c := 57) (.inl rfl) (.inl rfl) hm
    intro i hi
    have h2 : i = 0 ∨ i = 1 := by omega
    rcases h2 with rfl | rfl
    · exact this.1
    · exact this.2.1

theorem four {i : Nat} (h : i < 4) : i = 0 ∨ i = 1 ∨ i = 2 ∨ i = 3 := by omega

theorem year_eq (hl : l.length ≤ 2000000) (h : (mt l [57, 57, 57, 57] a).2 = true) : F29 ((l, (a : Int), 4, ()), ()) = some (dv l 4 0 a, ()) ∧ 0 ≤ dv l 4 0 a ∧ dv l 4 0 a ≤ 9999 := by
  obtain ⟨d0, d1, d2, d3, d4⟩ := digs4 h
  have hd : ∀ i, i < 4 → isdig (peek l (a + i)) = true := fun i hi => by
    rcases four hi with rfl | rfl | rfl | rfl
    · exact d0
    · exact d1
    · exact d2
    · exact d3
  have hb := dv_bound (l := l) (v := 0) 4 (a := a) hd (Int.le_refl _)
  refine ⟨F29_eq' hl (n := 4) (by omega) d4 hd, hb.1, ?_⟩
  have := hb.2
  simp at this
  omega

theorem two_eq (hl : l.length ≤ 2000000) {b c : UInt8} (hb : b = 57 ∨ b = 50 ∨ b = 53) (hc : c = 57 ∨ c = 51) (h : (mt l [b, c] a).2 = true) : F29 ((l, (a : Int), 2, ()), ()) = some (dv l 2 0 a, ()) ∧ 0 ≤ dv l 2 0 a ∧ dv l 2 0 a ≤ 99 := by
  obtain ⟨d0, d1, d2⟩ := digs2 hb hc h
  have hd : ∀ i, i < 2 → isdig (peek l (a + i)) = true := fun i hi => by
    have h2 : i = 0 ∨ i = 1 := by omega
    rcases h2 with rfl | rfl
    · exact d0
    · exact d1
  have hb := dv_bound (l := l) (v := 0) 2 (a := a) hd (Int.le_refl _)
  refine ⟨F29_eq' hl (n := 2) (by omega) d2 hd, hb.1, ?_⟩
  have := hb.2
  simp at this
  omega

theorem one_eq (hl : l.length ≤ 2000000) (h1 : a < l.length) (h : isdig (peek l a) = true) : F29 ((l, (a : Int), 1, ()), ()) = some (dv l 1 0 a, ()) ∧ 0 ≤ dv l 1 0 a ∧ dv l 1 0 a ≤ 99 := by
  have hd : ∀ i, i < 1 → isdig (peek l (a + i)) = true := fun i hi => by
    obtain rfl : i = 0 := by omega
    exact h
  have hb := dv_bound (l := l) (v := 0) 1 (a := a) hd (Int.le_refl _)
  refine ⟨F29_eq' hl (n := 1) (by omega) h1 hd, hb.1, ?_⟩
  have := hb.2
  simp at this
  omega

theorem month_eq (hg : Good l) (hl : l.length ≤ 2000000) (ha : a + 3 ≤ l.length) {km : Nat} (hk : hit months 3 (peek l a ++ peek l (a + 1) ++ peek l (a + 2)) = some km) : F27 ((l, (a : Int), months, ()), ()) = some ((km : Int), ()) ∧ w64 (1 + (km : Int)) = 1 + (km : Int) := by
  have h1 := hit_lt hk
  rw [months_len] at h1
  exact ⟨F27_eq' hg hl months_3 ha hk, w64_1 (by omega) (by omega)⟩

theorem day_law {s : List UInt8} {l : Ls} (h : Lt s l) : ∃ r, F8 ((s, ()), ()) = some r ∧ F9 ((s, ()), ()) = some r := by
  have hl := h.len
  have hg := h.good
  obtain ⟨n, hn, hq, hb⟩ := bst_day l
  obtain ⟨hp, hv⟩ := day_sim (l := l) hg
  have e25 : F25 ((l, ([([57, 45, 77, 77, 77, 45, 57, 57, 57, 57] : List UInt8), ([57, 57, 45, 77, 77, 77, 45, 57, 57, 57, 57] : List UInt8)] : Ls), ()), ()) = some (((bst l PD 0 0).1, ((bst l PD 0 0).2 : Int), ()), ()) :=
    F25_eq' hg hl (all := PD) (by decide) (by decide)
  have hlen : (dq l 0).length = n := by rw [hq, List.length_replicate]
  rw [F8_run h, hp]
  rcases end_cases (l := l) (dayQ l) with ⟨hf, hz, hlast⟩ | ⟨hf, hc⟩
  · rw [if_pos hf] at hb
    obtain ⟨hm, _, hql⟩ := full_true hf
    obtain ⟨hvd, ⟨km, hk, hvm⟩, hvy⟩ := hv hm
    rw [hlen] at hvd hk hvy
    obtain ⟨m0, hm⟩ := mt_split (p := dq l 0) hm
    obtain ⟨m1, hm⟩ := mt_split hm
    obtain ⟨m2, hm⟩ := mt_split hm
    obtain ⟨m3, m4⟩ := mt_split hm
    rw [hlen] at m1 m2 m3 m4
    have hL : l.length = n + 9 := by rw [← hql]; unfold dayQ; simp [hlen]
    have hd := dq_digs hn hq m0
    have e1 : F29 ((l, 0, (n : Int), ()), ()) = some (dv l n 0 0, ()) := F29_eq' hl (a := 0) (by omega) (by omega) hd
    have ey := year_eq (a := n + 5) hl (by
      have : 0 + n + [(45 : UInt8)].length + [(77 : UInt8), 77, 77].length + [(45 : UInt8)].length = n + 5 := by simp
      rw [this] at m4; exact m4)
    have em := month_eq (a := n + 1) hg hl (by omega) hk
    have w1 : w64 (((n - 1 : Nat) : Int) + 1) = (n : Int) := by rw [w64_id (by omega) (by omega)]; omega
    have w2 : w64 (((n - 1 : Nat) : Int) + 2) = ((n + 1 : Nat) : Int) := by rw [w64_id (by omega) (by omega)]; omega
    have w3 : w64 (((n - 1 : Nat) : Int) + 6) = ((n + 5 : Nat) : Int) := by rw [w64_id (by omega) (by omega)]; omega
    have cneg : decide (((n - 1 : Nat) : Int) < 0) = false := decide_eq_false (by omega)
    have f30 : F30 ((), ()) = some ((), (months, ())) := rfl
    have c1 : decide ((st l (mt l (dayQ l) 0)).2 = 0) = true := decide_eq_true hz
    have c2 : decide (((st l (mt l (dayQ l) 0)).1 : Int) < ((l.length : Nat) : Int)) = false := decide_eq_false (by omega)
    obtain ⟨b, b1, b2, _⟩ := @F35_eq (dayP l).y (dayP l).m (dayP l).d
    rw [hvd, hvm, hvy] at b1 b2
    have e9 : F9 ((s, ()), ()) = cond (!b) (some (((0, 0, 0, ()), 0, 2, ()), ())) (some (((dv l 4 0 (n + 5), 1 + (km : Int), dv l n 0 0, ()), 0, 0, ()), ())) := by
      simp only [F9, h.ref, Option.bind_some, e25, hb, cneg, cond_false, w1, e1, f30, w2, em.1, em.2, w3, ey.1, b2]
    rw [e9, c1, c2]
    simp only [Bool.and_false, cond_false, Bool.not_true, hvd, hvm, hvy, b1, Option.bind_some]
    cases b
    · exact ⟨_, rfl, rfl⟩
    · exact ⟨_, rfl, rfl⟩
  · rw [if_neg (by rw [hf]; simp)] at hb
    have cneg : decide ((-1 : Int) < 0) = true := by decide
    have e9 : F9 ((s, ()), ()) = some (((0, 0, 0, ()), ((mt l (dayQ l) 0).1 : Int), (if (mt l (dayQ l) 0).1 = l.length then 3 else 4), ()), ()) := by
      simp only [F9, h.ref, Option.bind_some, e25, hb, cneg, cond_true, F26_eq']
    rw [e9]
    rcases hc with ⟨hz, hlt⟩ | ⟨hz, hne⟩
    · have c1 : decide ((st l (mt l (dayQ l) 0)).2 = 0) = true := decide_eq_true hz
      have c2 : decide (((st l (mt l (dayQ l) 0)).1 : Int) < ((l.length : Nat) : Int)) = true := decide_eq_true (by omega)
      rw [c1, c2]
      have hne : (mt l (dayQ l) 0).1 ≠ l.length := by
        have : (st l (mt l (dayQ l) 0)).1 = (mt l (dayQ l) 0).1 := rfl
        omega
      rw [if_neg hne]
      exact ⟨_, rfl, rfl⟩
    · have hz0 : (st l (mt l (dayQ l) 0)).2 ≠ 0 := st_false hne
      have c1 : decide ((st l (mt l (dayQ l) 0)).2 = 0) = false := decide_eq_false hz0
      rw [c1, hz]
      exact ⟨_, rfl, rfl⟩

end Go.Dt

namespace Go.Dt
open Go Go.Ev
set_option maxRecDepth 100000

variable {l : Ls} {a : Nat}

theorem bst_dom {all : Ls} {q : List UInt8} {kq : Nat} (hq : all[kq]? = some q) (hd : ∀ i p, all[i]? = some p → i ≠ kq → full l p = false ∧ (mt l p 0).1 ≤ (mt l q 0).1) :
    bst l all 0 0 = if full l q = true then ((kq : Int), (mt l q 0).1) else (-1, (mt l q 0).1) := by
  have := bst_of (l := l) (all := all) (k := 0) (far := 0) (q := q) (kq := kq) hq (fun p hp => by
    obtain ⟨i, hi⟩ := List.mem_iff_getElem?.1 hp
    by_cases hk : i = kq
    · subst hk; rw [hq] at hi; cases hi; exact Nat.le_refl _
    · exact (hd i p hi hk).2) (fun i p hi hf => by
    by_cases hk : i = kq
    · exact hk
    · have := (hd i p hi hk).1; rw [hf] at this; cases this) (Nat.zero_le _)
  rw [Nat.zero_add] at this
  exact this

/-- A moment's end: the reader's, and the reference's. -/
theorem fin_eq (l : Ls) (y m d s z k : Int) : ∃ (t u e n b wk : Int), F31 (((y, m, d, ()), s, z, ()), ()) = some (((t, u, ()), 0, e, ()), ()) ∧ F33 (((y, m, d, ()), ()), ()) = some ((n, b, ()), ()) ∧ F34 ((n, ()), ()) = some (wk, ()) ∧
    ∃ w, F22 (((), ()), ((l, ((l.length : Nat) : Int), 0, y, m, d, s, z, k, ()), ())) = some ((if e = 0 ∧ 0 ≤ k ∧ wk ≠ k then ((0, 0, ()), 0, 2, ()) else ((t, u, ()), 0, e, ())), w) := by
  have c0 : decide ((0 : Int) = 0) = true := by decide
  have c1 : decide (((l.length : Nat) : Int) < ((l.length : Nat) : Int)) = false := decide_eq_false (by omega)
  rcases days y m d with ⟨_, h37, h33⟩ | ⟨_, h37, h33⟩
  · obtain ⟨wk, w1, w2, _⟩ := week_eq (num y m d)
    generalize num y m d = n at *
    generalize hT : w64 (w64 (w64 (n * 86400) + s) - w64 (60 * z)) = T
    have hT' : w64 (w64 (w64 (86400 * n) + s) - w64 (60 * z)) = T := by rw [Int.mul_comm]; exact hT
    rcases there T z with ⟨x1, x2, x3, x4, x5, h46, h51, _⟩ | ⟨x1, x2, x3, x4, h46, h51⟩
    · have e31 : F31 (((y, m, d, ()), s, z, ()), ()) = some (((T, z, ()), 0, 0, ()), ()) := by
        simp only [F31, h33, Option.bind_some, hT', h51, decide_true, Bool.not_true, Bool.or_self, cond_false]
      by_cases hk : 0 ≤ k
      · have ck := decide_eq_true hk
        by_cases hw : wk = k
        · have cw : decide (k = wk) = true := decide_eq_true hw.symm
          refine ⟨T, z, 0, n, 0, wk, e31, h33, w2, ?_⟩
          rw [if_neg (fun h => h.2.2 hw)]
          simp only [F22, decide_true, c1, Bool.and_false, cond_false, Option.bind_some, Bool.not_true, h37, hT, h46, Bool.or_self, Bool.not_false, cond_true, ck, w1, cw]
          exact ⟨_, rfl⟩
        · have cw : decide (k = wk) = false := decide_eq_false (fun h => hw h.symm)
          refine ⟨T, z, 0, n, 0, wk, e31, h33, w2, ?_⟩
          rw [if_pos ⟨rfl, hk, hw⟩]
          simp only [F22, decide_true, c1, Bool.and_false, cond_false, Option.bind_some, Bool.not_true, h37, hT, h46, Bool.or_self, Bool.not_false, cond_true, ck, w1, cw]
          exact ⟨_, rfl⟩
      · have ck := decide_eq_false hk
        refine ⟨T, z, 0, n, 0, wk, e31, h33, w2, ?_⟩
        rw [if_neg (fun h => hk h.2.1)]
        simp only [F22, decide_true, c1, Bool.and_false, cond_false, Option.bind_some, Bool.not_true, h37, hT, h46, Bool.or_self, Bool.not_false, cond_true, ck]
        exact ⟨_, rfl⟩
    · have e31 : F31 (((y, m, d, ()), s, z, ()), ()) = some (((0, 0, ()), 0, 2, ()), ()) := by
        simp only [F31, h33, Option.bind_some, hT', h51, decide_true, Bool.not_true, Bool.not_false, Bool.or_true, cond_true]
      refine ⟨0, 0, 2, n, 0, wk, e31, h33, w2, ?_⟩
      rw [if_neg (fun h => absurd h.1 (by decide))]
      simp only [F22, decide_true, c1, Bool.and_false, cond_false, Option.bind_some, Bool.not_true, h37, hT, h46, Bool.not_false, Bool.or_true, cond_true]
      exact ⟨_, rfl⟩
  · obtain ⟨wk, w1, w2, _⟩ := week_eq 0
    have c2 : decide ((2 : Int) = 0) = false := by decide
    generalize hT : w64 (w64 (w64 ((0 : Int) * 86400) + s) - w64 (60 * z)) = T
    have hT' : w64 (w64 (w64 (86400 * (0 : Int)) + s) - w64 (60 * z)) = T := by rw [Int.mul_comm]; exact hT
    obtain ⟨b1, b2, b3, b4, b5, b6, h46, h51⟩ : ∃ b1 b2 b3 b4 b5 b6, F46 (((T, z, ()), ()), ()) = some ((b1, b2, b3, ()), ()) ∧ F51 (((T, z, ()), ()), ()) = some ((b4, b5, b6, ()), ()) := by
      rcases there T z with ⟨x1, x2, x3, x4, x5, h46, h51, _⟩ | ⟨x1, x2, x3, x4, h46, h51⟩
      · exact ⟨_, _, _, _, _, _, h46, h51⟩
      · exact ⟨_, _, _, _, _, _, h46, h51⟩
    have e31 : F31 (((y, m, d, ()), s, z, ()), ()) = some (((0, 0, ()), 0, 2, ()), ()) := by
      simp only [F31, h33, Option.bind_some, hT', h51, c2, Bool.not_false, Bool.true_or, cond_true]
    refine ⟨0, 0, 2, 0, 2, wk, e31, h33, w2, ?_⟩
    rw [if_neg (fun h => absurd h.1 (by decide))]
    simp only [F22, decide_true, c1, c2, Bool.and_false, cond_false, Option.bind_some, Bool.not_true, h37, hT, h46, Bool.not_false, Bool.true_or, cond_true]
    exact ⟨_, rfl⟩

/-- A reader that stopped. -/
theorem fin_stop (l : Ls) {a : Nat} {w : Int} (h : w ≠ 0 ∨ a < l.length) (y m d s z k : Int) : ∃ x, F22 (((), ()), ((l, (a : Int), w, y, m, d, s, z, k, ()), ())) = some (((0, 0, ()), (a : Int), (if w = 0 then 4 else w), ()), x) := by
  by_cases hw : w = 0
  · subst hw
    have c0 : decide ((0 : Int) = 0) = true := by decide
    have c4 : decide ((4 : Int) = 0) = false := by decide
    have hlt : a < l.length := h.resolve_left (fun h => h rfl)
    have c1 : decide ((a : Int) < ((l.length : Nat) : Int)) = true := decide_eq_true (by omega)
    rw [if_pos rfl]
    simp only [F22, decide_true, c1, Bool.and_self, cond_true, Option.bind_some, c4, Bool.not_false]
    exact ⟨_, rfl⟩
  · have c0 := decide_eq_false hw
    rw [if_neg hw]
    simp only [F22, c0, Bool.false_and, cond_false, Option.bind_some, Bool.not_false, cond_true]
    exact ⟨_, rfl⟩

/-- The reference's offset. -/
theorem F32_off (hl : l.length ≤ 2000000) (hm : (mt l (oq l a) a).2 = true) : F32 ((l, (a : Int), ()), ()) = some ((if peek l a = [45] then -(60 * dv l 2 0 (a + 1) + dv l 2 0 (a + 3)) else 60 * dv l 2 0 (a + 1) + dv l 2 0 (a + 3)), ()) := by
  unfold oq at hm
  obtain ⟨m0, hm⟩ := mt_split (p := [if peek l a = [45] then 45 else 43]) (q := [50, 51, 53, 57]) hm
  obtain ⟨m1, m2⟩ := mt_split (p := [50, 51]) (q := [53, 57]) hm
  have h0 := mt_one m0
  obtain ⟨e1, e2, e3⟩ := two_eq hl (a := a + 1) (.inr (.inl rfl)) (.inr rfl) m1
  obtain ⟨e4, e5, e6⟩ := two_eq hl (a := a + 3) (.inr (.inr rfl)) (.inl rfl) m2
  have c1 : decide ((0 : Int) ≤ (a : Int)) = true := decide_eq_true (by omega)
  have c2 : decide ((a : Int) < ((l.length : Nat) : Int)) = true := decide_eq_true (by have := h0.1; omega)
  have hl1 : a < l.length := h0.1
  have w1 : w64 ((a : Int) + 1) = ((a + 1 : Nat) : Int) := by rw [w64_id (by omega) (by omega)]; rfl
  have w3 : w64 ((a : Int) + 3) = ((a + 3 : Nat) : Int) := by rw [w64_id (by omega) (by omega)]; rfl
  have hpk : l.getD a [] = peek l a := rfl
  by_cases hp : peek l a = [45]
  · rw [if_pos hp]
    have d1 : decide (peek l a = [43]) = false := by rw [hp]; decide
    have d2 : decide (peek l a = [45]) = true := decide_eq_true hp
    simp only [F32, c1, c2, Bool.and_self, cond_true, cond_false, Bool.true_or, Int.toNat_natCast, hpk, d1, d2, Bool.not_true, Bool.and_false, w1, e1, w3, e4, Option.bind_some]
    rw [w64_id (n := 60 * _) (by omega) (by omega), w64_id (n := 60 * _ + _) (by omega) (by omega), w64_id (by omega) (by omega), Int.zero_sub]
  · rw [if_neg hp]
    have h43 := h0.2
    rw [if_neg hp, fit_own (by decide)] at h43
    have d1 : decide (peek l a = [43]) = true := h43
    have d2 : decide (peek l a = [45]) = false := decide_eq_false hp
    simp only [F32, c1, c2, Bool.and_self, cond_true, cond_false, Bool.true_or, Int.toNat_natCast, hpk, d1, d2, Bool.not_true, Bool.false_and, w1, e1, w3, e4, Option.bind_some]
    rw [w64_id (n := 60 * _) (by omega) (by omega), w64_id (by omega) (by omega)]

theorem F32_no (ha : a < l.length) (h : ¬ (peek l a = [43] ∨ peek l a = [45])) : F32 ((l, (a : Int), ()), ()) = some (0, ()) := by
  have c1 : decide ((0 : Int) ≤ (a : Int)) = true := decide_eq_true (by omega)
  have c2 : decide ((a : Int) < ((l.length : Nat) : Int)) = true := decide_eq_true (by omega)
  have hpk : l.getD a [] = peek l a := rfl
  have d1 : decide (peek l a = [43]) = false := decide_eq_false fun h' => h (.inl h')
  have d2 : decide (peek l a = [45]) = false := decide_eq_false fun h' => h (.inr h')
  simp only [F32, c1, c2, Bool.and_self, cond_true, Bool.true_or, Int.toNat_natCast, hpk, d1, d2, Bool.not_false]

end Go.Dt

namespace Go.Dt
open Go Go.Ev
set_option maxRecDepth 100000

variable {l : Ls} {a : Nat}

theorem stop_law {q : List UInt8} (_hf : full l q = false) (hc : ((st l (mt l q 0)).2 = 0 ∧ (st l (mt l q 0)).1 < l.length ∨ (st l (mt l q 0)).2 = (if (mt l q 0).1 = l.length then 3 else 4) ∧ (mt l q 0).2 = false)) (y m d s z k : Int) :
    ∃ x, F22 (((), ()), ((l, ((st l (mt l q 0)).1 : Int), (st l (mt l q 0)).2, y, m, d, s, z, k, ()), ())) = some (((0, 0, ()), ((mt l q 0).1 : Int), (if (mt l q 0).1 = l.length then 3 else 4), ()), x) := by
  have hst : (st l (mt l q 0)).1 = (mt l q 0).1 := rfl
  rcases hc with ⟨hz, hlt⟩ | ⟨hz, hne⟩
  · obtain ⟨x, hx⟩ := fin_stop l (a := (st l (mt l q 0)).1) (w := (st l (mt l q 0)).2) (.inr hlt) y m d s z k
    rw [if_pos hz] at hx
    rw [if_neg (by omega)]
    exact ⟨x, hx⟩
  · have hz0 : (st l (mt l q 0)).2 ≠ 0 := st_false hne
    obtain ⟨x, hx⟩ := fin_stop l (a := (st l (mt l q 0)).1) (w := (st l (mt l q 0)).2) (.inl hz0) y m d s z k
    rw [if_neg hz0] at hx
    rw [← hz]
    exact ⟨x, hx⟩

theorem hq_false : hq false l a = [50, 51, 58, 53, 57, 58, 53, 57] := by unfold hq; rw [if_neg (fun h => absurd h.1 (by decide))]

/-- What a rest that fits says. -/
structure Rest (l : Ls) (may : Bool) (a : Nat) (Zq : List UInt8) : Prop where
  month : ∀ km : Nat, hit months 3 (peek l (a + 1) ++ peek l (a + 2) ++ peek l (a + 3)) = some km → F27 ((l, ((a + 1 : Nat) : Int), months, ()), ()) = some ((km : Int), ()) ∧ w64 (1 + (km : Int)) = 1 + (km : Int)
  year : F29 ((l, ((a + 5 : Nat) : Int), 4, ()), ()) = some (dv l 4 0 (a + 5), ()) ∧ 0 ≤ dv l 4 0 (a + 5) ∧ dv l 4 0 (a + 5) ≤ 9999
  hour : F29 ((l, ((a + 10 : Nat) : Int), 2, ()), ()) = some (dv l 2 0 (a + 10), ()) ∧ 0 ≤ dv l 2 0 (a + 10) ∧ dv l 2 0 (a + 10) ≤ 99
  min : F29 ((l, ((a + 13 : Nat) : Int), 2, ()), ()) = some (dv l 2 0 (a + 13), ()) ∧ 0 ≤ dv l 2 0 (a + 13) ∧ dv l 2 0 (a + 13) ≤ 99
  sec : ¬ (may = true ∧ peek l (a + 15) ≠ [58]) → F29 ((l, ((a + 16 : Nat) : Int), 2, ()), ()) = some (dv l 2 0 (a + 16), ()) ∧ 0 ≤ dv l 2 0 (a + 16) ∧ dv l 2 0 (a + 16) ≤ 99
  zone : (mt l Zq (a + 11 + (hq may l (a + 10)).length)).2 = true
  len : a + 11 + (hq may l (a + 10)).length ≤ l.length
  sgn : peek l (a + 10 + (hq may l (a + 10)).length) = [32]

theorem rest_facts (hg : Good l) (hl : l.length ≤ 2000000) {sep : UInt8} {may : Bool} {Zq : List UInt8} (hm : (mt l (rq sep may l a Zq) a).2 = true) : Rest l may a Zq := by
  unfold rq at hm
  obtain ⟨m1, hm⟩ := mt_split hm
  obtain ⟨m2, hm⟩ := mt_split hm
  obtain ⟨m3, hm⟩ := mt_split hm
  obtain ⟨m4, hm⟩ := mt_split hm
  obtain ⟨m5, hm⟩ := mt_split hm
  obtain ⟨m6, hm⟩ := mt_split hm
  obtain ⟨m7, m8⟩ := mt_split hm
  have a4 : a + 1 + [(77 : UInt8), 77, 77].length = a + 4 := rfl
  have h1 := (mt_one m1).1
  have hr := mt_one m7
  have hlen : a + 10 + (hq may l (a + 10)).length < l.length := hr.1
  have hs7 := hr.2
  rw [fit_own (by decide)] at hs7
  have hq5 : 5 ≤ (hq may l (a + 10)).length := by unfold hq; split <;> simp
  have hsg : ∃ r, hq may l (a + 10) = [50, 51] ++ ([58] ++ ([53, 57] ++ r)) ∧ (¬ (may = true ∧ peek l (a + 15) ≠ [58]) → r = [58] ++ [53, 57]) := by
    unfold hq
    by_cases hc : may = true ∧ peek l (a + 10 + 5) ≠ [58]
    · rw [if_pos hc]; exact ⟨[], rfl, fun h => absurd hc h⟩
    · rw [if_neg hc]; exact ⟨[58] ++ [53, 57], rfl, fun _ => rfl⟩
  obtain ⟨r, hqr, hrs⟩ := hsg
  have m6' := m6
  rw [hqr] at m6'
  obtain ⟨n1, m6'⟩ := mt_split m6'
  obtain ⟨n2, m6'⟩ := mt_split m6'
  obtain ⟨n3, n4⟩ := mt_split m6'
  refine ⟨fun km hk => month_eq (a := a + 1) hg hl (by omega) hk, year_eq (a := a + 5) hl m4, two_eq (a := a + 10) hl (.inr (.inl rfl)) (.inr rfl) n1, two_eq (a := a + 13) hl (.inr (.inr rfl)) (.inl rfl) n3, fun hc => ?_, ?_, by omega, of_decide_eq_true hs7⟩
  · rw [hrs hc] at n4
    obtain ⟨n4, n5⟩ := mt_split n4
    exact two_eq (a := a + 16) hl (.inr (.inr rfl)) (.inl rfl) n5
  · have e1 : a + [sep].length + [(77 : UInt8), 77, 77].length + [sep].length + [(57 : UInt8), 57, 57, 57].length + [(32 : UInt8)].length + (hq may l (a + 10)).length + [(32 : UInt8)].length = a + 11 + (hq may l (a + 10)).length := by simp; omega
    rw [e1] at m8; exact m8

/-- The pattern of a short moment, whole. -/
def sq (l : Ls) : List UInt8 := fq l ++ rq 45 false l 2 (oq l 21)

def ov (l : Ls) (a : Nat) : Int := if peek l a = [45] then -(60 * dv l 2 0 (a + 1) + dv l 2 0 (a + 3)) else 60 * dv l 2 0 (a + 1) + dv l 2 0 (a + 3)

theorem short_sim (hg : Good l) : (shortP l).p = st l (mt l (sq l) 0) ∧ ((mt l (sq l) 0).2 = true → (shortP l).d = fv l ∧ (shortP l).y = dv l 4 0 7 ∧
    (∃ km : Nat, hit months 3 (peek l 3 ++ peek l 4 ++ peek l 5) = some km ∧ (shortP l).m = 1 + (km : Int)) ∧ (shortP l).s = sv false l 12 ∧ (shortP l).z = ov l 21) := by
  obtain ⟨f1, f2⟩ := first_sim (l := l) hg
  have ho := off_sim (l := l) (a := 21) hg
  have hh : 2 + 11 + (hq false l (2 + 10)).length = 21 := by rw [hq_false]; rfl
  have hr := rest_sim (l := l) (a := 2) hg (sep := 45) (by decide) (by decide) (may := false) (Z := offS l) (Zq := oq l 21) (zv := ov l 21) (by rw [hh]; exact ho.1) (by rw [hh]; exact ho.2) (-1) (firstP l).1
  have hap := mt_append l (fq l) (rq 45 false l 2 (oq l 21)) 0
  rw [Nat.zero_add, fq_len] at hap
  unfold sq
  rw [hap]
  cases hm : (mt l (fq l) 0).2 with
  | true =>
    rw [if_pos rfl]
    have hpos := mt_true hm
    rw [Nat.zero_add, fq_len] at hpos
    rw [st_true hm, hpos] at f1
    have hle := mt_len (l := l) (p := fq l) (Nat.zero_le l.length)
    rw [hpos] at hle
    unfold shortP
    rw [f1]
    refine ⟨hr.1.go hle, fun h => ?_⟩
    have := hr.2 hle h
    exact ⟨f2 hm, this⟩
  | false =>
    rw [if_neg (by simp)]
    refine ⟨?_, fun h => by rw [hm] at h; cases h⟩
    unfold shortP
    rw [f1]
    exact hr.1.stay _ (st_false hm)

def PS : Ls := [[57, 57, 45, 77, 77, 77, 45, 57, 57, 57, 57, 32, 50, 51, 58, 53, 57, 58, 53, 57, 32, 43, 50, 51, 53, 57], [57, 57, 45, 77, 77, 77, 45, 57, 57, 57, 57, 32, 50, 51, 58, 53, 57, 58, 53, 57, 32, 45, 50, 51, 53, 57],
  [32, 57, 45, 77, 77, 77, 45, 57, 57, 57, 57, 32, 50, 51, 58, 53, 57, 58, 53, 57, 32, 43, 50, 51, 53, 57], [32, 57, 45, 77, 77, 77, 45, 57, 57, 57, 57, 32, 50, 51, 58, 53, 57, 58, 53, 57, 32, 45, 50, 51, 53, 57]]

def mid : List UInt8 := [45, 77, 77, 77, 45, 57, 57, 57, 57, 32, 50, 51, 58, 53, 57, 58, 53, 57, 32]

/-- a short pattern -/
def ps (f z : Nat) : List UInt8 := (if f = 0 then [57, 57] else [32, 57]) ++ (mid ++ [if z = 0 then 43 else 45, 50, 51, 53, 57])

theorem PS_eq : PS = [ps 0 0, ps 0 1, ps 1 0, ps 1 1] := rfl

theorem bst_short (l : Ls) : ∃ f z : Nat, f < 2 ∧ z < 2 ∧ (f = 1 ↔ peek l 0 = [32]) ∧ bst l PS 0 0 = if full l (sq l) = true then (((2 * f + z : Nat) : Int), (mt l (sq l) 0).1) else (-1, (mt l (sq l) 0).1) := by
  obtain ⟨f, hf2, hf⟩ : ∃ f : Nat, f < 2 ∧ (f = 1 ↔ peek l 0 = [32]) := by
    by_cases h : peek l 0 = [32]
    · exact ⟨1, by omega, by simp [h]⟩
    · exact ⟨0, by omega, by simp [h]⟩
  obtain ⟨z, hz2, hz⟩ : ∃ z : Nat, z < 2 ∧ (z = 1 ↔ peek l 21 = [45]) := by
    by_cases h : peek l 21 = [45]
    · exact ⟨1, by omega, by simp [h]⟩
    · exact ⟨0, by omega, by simp [h]⟩
  have hQ : sq l = ps f z := by
    unfold sq fq rq oq ps
    rw [hq_false]
    have hf' : f = 0 ∨ f = 1 := by omega
    have hz' : z = 0 ∨ z = 1 := by omega
    rcases hf' with rfl | rfl <;> rcases hz' with rfl | rfl
    · rw [if_neg (by simpa using hf), if_neg (by simpa using hz)]; rfl
    · rw [if_neg (by simpa using hf), if_pos (by simpa using hz)]; rfl
    · rw [if_pos (by simpa using hf), if_neg (by simpa using hz)]; rfl
    · rw [if_pos (by simpa using hf), if_pos (by simpa using hz)]; rfl
  -- where two patterns part
  have dz : ∀ f' : Nat, f' = f → ∀ z', z' < 2 → z' ≠ z → full l (ps f' z') = false ∧ (mt l (ps f' z') 0).1 ≤ (mt l (ps f z) 0).1 := by
    rintro f' rfl z' h1 h2
    have hc : ∀ z, ps f' z = ((if f' = 0 then [57, 57] else [32, 57]) ++ mid) ++ (if z = 0 then 43 else 45) :: [50, 51, 53, 57] := fun z => by unfold ps; rw [List.append_assoc]
    rw [hc z', hc z]
    refine dom fun _ hh => ?_
    have hlen : ((if f' = 0 then [57, 57] else [32, 57]) ++ mid : List UInt8).length = 21 := by
      split <;> rfl
    rw [hlen] at hh
    have h3 := hh.2
    have hz' : z' = 0 ∨ z' = 1 := by omega
    rcases hz' with rfl | rfl
    · rw [if_pos rfl, fit_own (by decide)] at h3
      have h4 : peek l 21 = [43] := of_decide_eq_true h3
      have h5 := hz.1 (by omega)
      rw [h4] at h5; exact absurd h5 (by decide)
    · rw [if_neg (by omega), fit_own (by decide)] at h3
      have h4 : peek l 21 = [45] := of_decide_eq_true h3
      have := hz.2 h4
      omega
  have df : ∀ f' z', f' < 2 → f' ≠ f → full l (ps f' z') = false ∧ (mt l (ps f' z') 0).1 ≤ (mt l (ps f z) 0).1 := by
    intro f' z' h1 h2
    have hf' : f' = 0 ∨ f' = 1 := by omega
    rcases hf' with rfl | rfl
    · have hc : ps 0 z' = [] ++ 57 :: ([57] ++ (mid ++ [if z' = 0 then 43 else 45, 50, 51, 53, 57])) := rfl
      have hc2 : ps f z = [] ++ ps f z := rfl
      rw [hc, hc2]
      refine dom fun _ hh => ?_
      have h3 := hh.2
      rw [fit57] at h3
      have h4 := hf.1 (by omega)
      have h3' : isdig (peek l 0) = true := h3
      rw [h4] at h3'; exact absurd h3' (by decide)
    · have hc : ps 1 z' = [] ++ 32 :: ([57] ++ (mid ++ [if z' = 0 then 43 else 45, 50, 51, 53, 57])) := rfl
      have hc2 : ps f z = [] ++ ps f z := rfl
      rw [hc, hc2]
      refine dom fun _ hh => ?_
      have h3 := hh.2
      rw [fit_own (by decide)] at h3
      have h4 : peek l 0 = [32] := of_decide_eq_true h3
      have := hf.2 h4
      omega
  refine ⟨f, z, hf2, hz2, hf, ?_⟩
  rw [hQ]
  refine bst_dom ?_ fun i p hi hk => ?_
  · have hf' : f = 0 ∨ f = 1 := by omega
    have hz' : z = 0 ∨ z = 1 := by omega
    rw [PS_eq]
    rcases hf' with rfl | rfl <;> rcases hz' with rfl | rfl <;> rfl
  · rw [PS_eq] at hi
    have key : ∃ f' z', f' < 2 ∧ z' < 2 ∧ p = ps f' z' ∧ i = 2 * f' + z' := by
      match i, hi with
      | 0, hi => exact ⟨0, 0, by omega, by omega, by simpa using hi.symm, rfl⟩
      | 1, hi => exact ⟨0, 1, by omega, by omega, by simpa using hi.symm, rfl⟩
      | 2, hi => exact ⟨1, 0, by omega, by omega, by simpa using hi.symm, rfl⟩
      | 3, hi => exact ⟨1, 1, by omega, by omega, by simpa using hi.symm, rfl⟩
      | i + 4, hi => simp at hi
    obtain ⟨f', z', h1, h2, rfl, rfl⟩ := key
    by_cases hff : f' = f
    · exact dz f' hff z' h2 (by omega)
    · exact df f' z' h1 hff

end Go.Dt

namespace Go.Dt
open Go Go.Ev
set_option maxRecDepth 100000

variable {l : Ls} {a : Nat}

theorem sv_w {h m s : Int} (h1 : 0 ≤ h ∧ h ≤ 99) (h2 : 0 ≤ m ∧ m ≤ 99) (h3 : 0 ≤ s ∧ s ≤ 99) : w64 (w64 (w64 (3600 * h) + w64 (60 * m)) + s) = 3600 * h + 60 * m + s := by
  rw [w64_id (n := 3600 * h) (by omega) (by omega), w64_id (n := 60 * m) (by omega) (by omega), w64_id (n := 3600 * h + 60 * m) (by omega) (by omega), w64_id (by omega) (by omega)]

theorem short_law {s : List UInt8} {l : Ls} (h : Lt s l) : ∃ r, F6 ((s, ()), ()) = some r ∧ F7 ((s, ()), ()) = some r := by
  have hl := h.len
  have hg := h.good
  obtain ⟨f, z, hf2, hz2, hpf, hb⟩ := bst_short l
  obtain ⟨hp, hv⟩ := short_sim (l := l) hg
  have e25 : F25 ((l, ([([57, 57, 45, 77, 77, 77, 45, 57, 57, 57, 57, 32, 50, 51, 58, 53, 57, 58, 53, 57, 32, 43, 50, 51, 53, 57] : List UInt8), ([57, 57, 45, 77, 77, 77, 45, 57, 57, 57, 57, 32, 50, 51, 58, 53, 57, 58, 53, 57, 32, 45, 50, 51, 53, 57] : List UInt8), ([32, 57, 45, 77, 77, 77, 45, 57, 57, 57, 57, 32, 50, 51, 58, 53, 57, 58, 53, 57, 32, 43, 50, 51, 53, 57] : List UInt8), ([32, 57, 45, 77, 77, 77, 45, 57, 57, 57, 57, 32, 50, 51, 58, 53, 57, 58, 53, 57, 32, 45, 50, 51, 53, 57] : List UInt8)] : Ls), ()), ()) = some (((bst l PS 0 0).1, ((bst l PS 0 0).2 : Int), ()), ()) :=
    F25_eq' hg hl (all := PS) (by decide) (by decide)
  rw [F6_run h, hp]
  rcases end_cases (l := l) (sq l) with ⟨hf, hz, hlast⟩ | ⟨hf, hc⟩
  · rw [if_pos hf] at hb
    obtain ⟨hm, _, hql⟩ := full_true hf
    obtain ⟨hvd, hvy, ⟨km, hk, hvm⟩, hvs, hvz⟩ := hv hm
    have hk' : (shortP l).k = -1 := rfl
    obtain ⟨m0, m1⟩ := mt_split hm
    rw [Nat.zero_add, fq_len] at m1
    have R := rest_facts hg hl m1
    have hqf : (hq false l (2 + 10)).length = 8 := by rw [hq_false]; rfl
    have Rz := R.zone
    have Rl := R.len
    rw [hqf] at Rz Rl
    have e32 : F32 ((l, 21, ()), ()) = some (ov l 21, ()) := F32_off (a := 21) hl Rz
    have Rm := R.month km hk
    have Rs := R.sec (fun h => absurd h.1 (by decide))
    have e27 : F27 ((l, 3, months, ()), ()) = some ((km : Int), ()) := Rm.1
    have ey : F29 ((l, 7, 4, ()), ()) = some (dv l 4 0 7, ()) := R.year.1
    have eh : F29 ((l, 12, 2, ()), ()) = some (dv l 2 0 12, ()) := R.hour.1
    have emi : F29 ((l, 15, 2, ()), ()) = some (dv l 2 0 15, ()) := R.min.1
    have es : F29 ((l, 18, 2, ()), ()) = some (dv l 2 0 18, ()) := Rs.1
    have hsv : sv false l 12 = 3600 * dv l 2 0 12 + 60 * dv l 2 0 15 + dv l 2 0 18 := by
      unfold sv; rw [if_neg (fun h => absurd h.1 (by decide))]
    have wsv : w64 (w64 (w64 (3600 * dv l 2 0 12) + w64 (60 * dv l 2 0 15)) + dv l 2 0 18) = sv false l 12 := by
      rw [hsv]; exact sv_w R.hour.2 R.min.2 Rs.2
    have f30 : F30 ((), ()) = some ((), (months, ())) := rfl
    have cneg : decide (((2 * f + z : Nat) : Int) < 0) = false := decide_eq_false (by omega)
    obtain ⟨t, u, e, n, b, wk, e31, _, _, x, e22⟩ := fin_eq l (dv l 4 0 7) (1 + (km : Int)) (fv l) (sv false l 12) (ov l 21) (-1)
    rw [if_neg (fun h => absurd h.2.1 (by decide))] at e22
    have e7 : F7 ((s, ()), ()) = some (((t, u, ()), 0, e, ()), ()) := by
      by_cases h0 : peek l 0 = [32]
      · have hf1 := hpf.2 h0
        have c2 : decide (((2 * f + z : Nat) : Int) < 2) = false := decide_eq_false (by omega)
        have hfq : fq l = [32] ++ [57] := by unfold fq; rw [if_pos h0]; rfl
        rw [hfq] at m0
        obtain ⟨_, d1⟩ := mt_split m0
        have d1 := mt_one d1
        have d1' := d1.2
        rw [fit57] at d1'
        have e1 : F29 ((l, 1, 1, ()), ()) = some (dv l 1 0 1, ()) := (one_eq (a := 1) hl (by omega) d1').1
        have hfv : fv l = dv l 1 0 1 := by unfold fv; rw [if_pos h0]
        rw [hfv] at e31
        simp only [F7, h.ref, Option.bind_some, e25, hb, cneg, cond_false, e1, f30, e27, ey, c2, Rm.2, eh, emi, es, e32, wsv, e31]
      · have hf0 : f = 0 := by
          have : f ≠ 1 := fun hh => h0 (hpf.1 hh)
          omega
        have c2 : decide (((2 * f + z : Nat) : Int) < 2) = true := decide_eq_true (by omega)
        have hfq : fq l = [57, 57] := by unfold fq; rw [if_neg h0]
        rw [hfq] at m0
        obtain ⟨d0, d1, d2⟩ := digs2 (.inl rfl) (.inl rfl) m0
        have e1 : F29 ((l, 1, 1, ()), ()) = some (dv l 1 0 1, ()) := (one_eq (a := 1) hl (by omega) d1).1
        have e2 : F29 ((l, 0, 2, ()), ()) = some (dv l 2 0 0, ()) := (two_eq (a := 0) hl (.inl rfl) (.inl rfl) m0).1
        have hfv : fv l = dv l 2 0 0 := by unfold fv; rw [if_neg h0]
        rw [hfv] at e31
        simp only [F7, h.ref, Option.bind_some, e25, hb, cneg, cond_false, cond_true, e1, f30, e27, ey, c2, e2, Rm.2, eh, emi, es, e32, wsv, e31]
    rw [e7, hz, hlast, hvd, hvy, hvm, hvs, hvz, hk', e22]
    exact ⟨_, rfl, rfl⟩
  · rw [if_neg (by rw [hf]; simp)] at hb
    have cneg : decide ((-1 : Int) < 0) = true := by decide
    have e7 : F7 ((s, ()), ()) = some (((0, 0, ()), ((mt l (sq l) 0).1 : Int), (if (mt l (sq l) 0).1 = l.length then 3 else 4), ()), ()) := by
      simp only [F7, h.ref, Option.bind_some, e25, hb, cneg, cond_true, F26_eq']
    obtain ⟨x, hx⟩ := stop_law hf hc (shortP l).y (shortP l).m (shortP l).d (shortP l).s (shortP l).z (shortP l).k
    rw [e7, hx]
    exact ⟨_, rfl, rfl⟩

end Go.Dt
