/- Names of days and months. -/
import Derived.Test.YtbaocindligcmaaDoorQq2
namespace Go.Dt
open Go Go.Ev
set_option maxRecDepth 100000

variable {l : Ls} {a : Nat}

structure Nm3 (names : Ls) : Prop where
  nms : Nms names
  len : ∀ x ∈ names, x.length = 3
  let_ : ∀ x ∈ names, ∀ b ∈ x, (65 ≤ b.toNat ∧ b.toNat ≤ 90) ∨ (97 ≤ b.toNat ∧ b.toNat ≤ 122)

theorem weeks_3 : Nm3 weeks := ⟨weeks_nms, by decide, by decide⟩
theorem months_3 : Nm3 months := ⟨months_nms, by decide, by decide⟩

theorem low1_alpha {b : UInt8} (h : (65 ≤ b.toNat ∧ b.toNat ≤ 90) ∨ (97 ≤ b.toNat ∧ b.toNat ≤ 122)) : 97 ≤ (low1 b).toNat ∧ (low1 b).toNat ≤ 122 := by
  unfold low1
  split
  · next hc =>
    have : (b + 32).toNat = b.toNat + 32 := by
      rw [UInt8.toNat_add]
      show (b.toNat + 32) % 256 = _
      omega
    omega
  · next hc => omega

theorem low1_big {b : UInt8} (h : 128 ≤ b.toNat) : low1 b = b := by
  unfold low1
  rw [if_neg (by omega)]

theorem alpha_low1 {b : UInt8} (h : 97 ≤ (low1 b).toNat ∧ (low1 b).toNat ≤ 122) : alpha [b] = true := by
  have key : (65 ≤ b.toNat ∧ b.toNat ≤ 90) ∨ (97 ≤ b.toNat ∧ b.toNat ≤ 122) := by
    unfold low1 at h
    split at h
    · next hc => exact .inl hc
    · exact .inr h
  simp only [alpha, List.length_cons, List.length_nil, decide_true, Bool.true_and]
  show ((decide (65 ≤ b.toNat) && decide (b.toNat ≤ 90)) || (decide (97 ≤ b.toNat) && decide (b.toNat ≤ 122))) = true
  rw [Bool.or_eq_true, Bool.and_eq_true, Bool.and_eq_true, decide_eq_true_eq, decide_eq_true_eq, decide_eq_true_eq, decide_eq_true_eq]
  exact key

theorem low_append (x y : List UInt8) : low (x ++ y) = low x ++ low y := by simp [low]
theorem low_len (x : List UInt8) : (low x).length = x.length := by simp [low]
theorem low_take (x : List UInt8) (n : Nat) : (low x).take n = low (x.take n) := by simp [low, List.map_take]

theorem step_iff {x got : List UInt8} {b : UInt8} {j : Nat} (hx : j < x.length) (hj : got.length = j) : (low x).take (j + 1) = low (got ++ [b]) ↔ low (x.take j) = low got ∧ low ((x.drop j).take 1) = low [b] := by
  have h1 : x.take (j + 1) = x.take j ++ (x.drop j).take 1 := by rw [List.take_add]
  rw [low_take, h1, low_append, low_append]
  constructor
  · intro h
    have hl : (low (x.take j)).length = (low got).length := by rw [low_len, low_len, List.length_take]; omega
    exact List.append_inj h hl
  · rintro ⟨h1, h2⟩
    rw [h1, h2]

theorem goes_begins {names : Ls} (hN : Nm3 names) {j : Nat} {got c : List UInt8} (hj : got.length = j) (hj3 : j < 3) (hc : c ≠ []) (hb : 2 ≤ c.length → 128 ≤ (c.getD 0 0).toNat) : goes names j got c = begins names (low (got ++ c)) := by
  rw [Bool.eq_iff_iff]
  simp only [goes, begins, List.any_eq_true, Bool.and_eq_true, decide_eq_true_eq, low_len, List.length_append]
  cases c with
  | nil => exact absurd rfl hc
  | cons b t =>
    cases t with
    | nil =>
      constructor
      · rintro ⟨x, hx, ⟨h1, h2⟩, h3⟩
        refine ⟨by simp; omega, x, hx, ?_⟩
        rw [hj]
        exact (step_iff h1 hj).2 ⟨h2, h3⟩
      · rintro ⟨_, x, hx, h⟩
        have hxl := hN.len x hx
        rw [hj] at h
        obtain ⟨h1, h2⟩ := (step_iff (by omega) hj).1 h
        exact ⟨x, hx, ⟨by omega, h1⟩, h2⟩
    | cons b2 t =>
      have hbig : 128 ≤ b.toNat := hb (by simp)
      constructor
      · rintro ⟨x, hx, _, h3⟩
        have := congrArg List.length h3
        rw [low_len, low_len, List.length_take, List.length_drop, hN.len x hx] at this
        simp at this
        omega
      · rintro ⟨h0, x, hx, h⟩
        exfalso
        have hxl := hN.len x hx
        have h1 := congrArg (fun s => s.getD j 0) h
        simp only [low_append] at h1
        have e1 : (List.take (got.length + (b :: b2 :: t).length) (low x)).getD j 0 = low1 (x.getD j 0) := by
          rw [List.getD_eq_getElem?_getD, List.getElem?_take_of_lt (by simp; omega), low, List.getElem?_map, List.getD_eq_getElem?_getD, List.getElem?_eq_getElem (by omega)]
          rfl
        have e2 : (low got ++ low (b :: b2 :: t)).getD j 0 = low1 b := by
          have : low (b :: b2 :: t) = low1 b :: low (b2 :: t) := rfl
          rw [this]
          exact getD_mid (by rw [low_len, hj])
        rw [e1, e2, low1_big hbig] at h1
        have hm : x.getD j 0 ∈ x := by rw [getD_lt (by omega)]; exact List.getElem_mem _
        have := low1_alpha (hN.let_ x hx _ hm)
        rw [h1] at this
        omega

theorem goes_alpha {names : Ls} (hN : Nm3 names) {j : Nat} {got c : List UInt8} (h : goes names j got c = true) : alpha c = true := by
  simp only [goes, List.any_eq_true, Bool.and_eq_true, decide_eq_true_eq] at h
  obtain ⟨x, hx, ⟨h1, _⟩, h3⟩ := h
  have hd : (x.drop j).take 1 = [x.getD j 0] := by
    rw [List.drop_eq_getElem_cons h1, getD_lt h1]; rfl
  rw [hd] at h3
  have hl := congrArg List.length h3
  rw [low_len, low_len] at hl
  obtain ⟨b, rfl⟩ := List.length_eq_one_iff.1 hl.symm
  have hb : low1 (x.getD j 0) = low1 b := by
    have h3' : [low1 (x.getD j 0)] = [low1 b] := h3
    exact (List.cons.inj h3').1
  have hm : x.getD j 0 ∈ x := by rw [getD_lt h1]; exact List.getElem_mem _
  have := low1_alpha (hN.let_ x hx _ hm)
  rw [hb] at this
  exact alpha_low1 this

theorem cat_zero (l : Ls) (f : Nat) : cat l f 0 = [] := by simp [cat, low]

theorem cat_one (h : a < l.length) : cat l a 1 = low (peek l a) := by
  rw [cat_snoc (n := 0) (by omega), cat_zero]; rfl

/-- A name is read as the reference holds it against its letters. -/
theorem names_sim (hg : Good l) {names : Ls} (hN : Nm3 names) {b : UInt8} (hfit : ∀ i, fitS l i b = begins names (cat l (bk l 2 i) (i + 1 - bk l 2 i))) (ha : a = 0 ∨ alpha (peek l (a - 1)) = false) :
    Sim l (fun p => (ww names l p).2) [b, b, b] a ∧ (a ≤ l.length → (mt l [b, b, b] a).2 = true → ∃ k : Nat, hit names 3 (peek l a ++ peek l (a + 1) ++ peek l (a + 2)) = some k ∧ (ww names l (a, 0)).1 = k) := by
  have hit0 : ∀ k got, k < 3 → hit names k got = none := fun k got hk => by
    unfold hit
    rw [List.findIdx?_eq_none_iff]
    intro x hx
    have := hN.len x hx
    rw [decide_eq_false (by omega)]
    rfl
  have gpeek : ∀ {i : Nat}, i < l.length → peek l i ≠ [] ∧ (2 ≤ (peek l i).length → 128 ≤ ((peek l i).getD 0 0).toNat) := fun {i} hi => by
    have : peek l i ∈ l := by unfold peek; rw [getD_ltL hi]; exact List.getElem_mem _
    exact ⟨hg.ne _ this, hg.big _ this⟩
  have bk0 : bk l 2 a = a := by
    unfold bk
    rcases ha with rfl | h
    · rw [if_neg (by omega)]
    · have h' : alpha (l.getD (a - 1) []) = false := h
      rw [if_neg (by rw [h']; simp)]
  have stay : ∀ p : Nat × Int, p.2 ≠ 0 → (ww names l p).2 = p := fun p hp => by
    unfold ww
    simp only [wd, hit0 0 [] (by omega)]
    have ht := tk_stay (l := l) (f := goes names 0 []) hp
    have he : (tk (goes names 0 []) l p.1 p.2).1 = [] := by
      unfold tk; rw [if_neg (fun hh => hp hh.1)]
    rw [if_pos he]
    exact ht
  -- the first letter
  have f0 : a < l.length → goes names 0 [] (peek l a) = fitS l a b := fun hlt => by
    rw [hfit, bk0, Nat.add_sub_cancel_left, cat_one hlt]
    exact goes_begins (j := 0) (got := []) hN rfl (by omega) (gpeek hlt).1 (gpeek hlt).2
  -- a letter that does not fit
  have no : ∀ {j i : Nat} {got : List UInt8} {n : Nat}, (i < l.length → goes names j got (peek l i) = fitS l i b) → ¬ (i < l.length ∧ fitS l i b = true) → j < 3 → wd names l (n + 1) j got i 0 = (0, st l (i, false)) := fun {j i got n} hf hc hj => by
    simp only [wd, hit0 j got hj]
    rw [tk_no (fun h => hc ⟨(peek_ne hg).1 h.2.1, by rw [← hf ((peek_ne hg).1 h.2.1)]; exact h.2.2⟩), if_pos rfl]
    rfl
  have yes : ∀ {j i : Nat} {got : List UInt8} {n : Nat}, (i < l.length → goes names j got (peek l i) = fitS l i b) → (i < l.length ∧ fitS l i b = true) → j < 3 → wd names l (n + 1) j got i 0 = wd names l n (j + 1) (got ++ peek l i) (i + 1) 0 ∧ alpha (peek l i) = true ∧ (peek l i).length = 1 := fun {j i got n} hf hc hj => by
    have hgo : goes names j got (peek l i) = true := by rw [hf hc.1]; exact hc.2
    have hal := goes_alpha hN hgo
    refine ⟨?_, hal, ?_⟩
    · simp only [wd, hit0 j got hj]
      rw [tk_yes rfl ((peek_ne hg).2 hc.1) hgo, if_neg ((peek_ne hg).2 hc.1)]
    · simp only [alpha, Bool.and_eq_true, decide_eq_true_eq] at hal; exact hal.1
  by_cases c0 : a < l.length ∧ fitS l a b = true
  · obtain ⟨w1, al0, len0⟩ := yes (n := 4) f0 c0 (by omega)
    have bk1 : bk l 2 (a + 1) = a := by
      unfold bk
      have h' : alpha (l.getD (a + 1 - 1) []) = true := al0
      rw [if_pos ⟨by omega, h'⟩, Nat.add_sub_cancel]
      unfold bk
      rcases ha with rfl | h
      · rw [if_neg (by omega)]
      · have h' : alpha (l.getD (a - 1) []) = false := h
        rw [if_neg (by rw [h']; simp)]
    have f1 : a + 1 < l.length → goes names 1 ([] ++ peek l a) (peek l (a + 1)) = fitS l (a + 1) b := fun hlt => by
      rw [hfit, bk1, show a + 1 + 1 - a = 1 + 1 by omega, cat_snoc (n := 1) (by omega), cat_one (by omega), List.nil_append, goes_begins hN len0 (by omega) (gpeek hlt).1 (gpeek hlt).2, low_append]; rfl
    by_cases c1 : a + 1 < l.length ∧ fitS l (a + 1) b = true
    · obtain ⟨w2, al1, len1⟩ := yes (n := 3) f1 c1 (by omega)
      have bk2 : bk l 2 (a + 2) = a := by
        unfold bk
        have h' : alpha (l.getD (a + 2 - 1) []) = true := al1
        rw [if_pos ⟨by omega, h'⟩, show a + 2 - 1 = a + 1 by omega]
        unfold bk
        have h' : alpha (l.getD (a + 1 - 1) []) = true := al0
        rw [if_pos ⟨by omega, h'⟩, Nat.add_sub_cancel]
        rfl
      have f2 : a + 1 + 1 < l.length → goes names 2 ([] ++ peek l a ++ peek l (a + 1)) (peek l (a + 1 + 1)) = fitS l (a + 1 + 1) b := fun hlt => by
        rw [hfit, show a + 1 + 1 = a + 2 by omega, bk2, show a + 2 + 1 - a = 1 + 1 + 1 by omega, cat_snoc (n := 1 + 1) (by omega), cat_snoc (n := 1) (by omega), cat_one (by omega), List.nil_append,
          goes_begins hN (by rw [List.length_append, len0, len1]) (by omega) (gpeek (show a + 2 < l.length by omega)).1 (gpeek (show a + 2 < l.length by omega)).2, low_append, low_append]; rfl
      by_cases c2 : a + 1 + 1 < l.length ∧ fitS l (a + 1 + 1) b = true
      · obtain ⟨w3, al2, len2⟩ := yes (n := 2) f2 c2 (by omega)
        have hgo : goes names 2 ([] ++ peek l a ++ peek l (a + 1)) (peek l (a + 1 + 1)) = true := by rw [f2 c2.1]; exact c2.2
        have hk : ∃ k : Nat, hit names 3 (peek l a ++ peek l (a + 1) ++ peek l (a + 2)) = some k := by
          rw [List.nil_append] at hgo
          simp only [goes, List.any_eq_true, Bool.and_eq_true, decide_eq_true_eq] at hgo
          obtain ⟨x, hx, ⟨h1, h2⟩, h3⟩ := hgo
          obtain ⟨d, hd⟩ := List.length_eq_one_iff.1 len2
          have hxl := hN.len x hx
          have heq : low x = low (peek l a ++ peek l (a + 1) ++ peek l (a + 2)) := by
            have h4 := (step_iff (x := x) (got := peek l a ++ peek l (a + 1)) (b := d) (j := 2) (by omega) (by rw [List.length_append, len0, len1])).2 ⟨h2, by rw [← hd]; exact h3⟩
            rw [List.take_of_length_le (by rw [low_len]; omega), ← hd] at h4
            exact h4
          cases hh : hit names 3 (peek l a ++ peek l (a + 1) ++ peek l (a + 2)) with
          | some k => exact ⟨k, rfl⟩
          | none =>
            unfold hit at hh
            rw [List.findIdx?_eq_none_iff] at hh
            have := hh x hx
            rw [decide_eq_true hxl, decide_eq_true heq] at this
            cases this
        obtain ⟨k, hk⟩ := hk
        have hmt : mt l [b, b, b] a = (a + 3, true) := by
          simp only [mt]; rw [if_pos c0, if_pos c1, if_pos c2]
        have hw : ww names l (a, 0) = ((k : Int), a + 3, 0) := by
          unfold ww
          simp only
          rw [w1, w2, w3]
          simp only [wd, List.nil_append]
          have hk' : hit names (0 + 1 + 1 + 1) (peek l a ++ peek l (a + 1) ++ peek l (a + 1 + 1)) = some k := hk
          rw [hk']
        refine ⟨⟨fun _ => ?_, stay⟩, fun _ _ => ⟨k, hk, by rw [hw]⟩⟩
        rw [hmt]
        show (ww names l (a, 0)).2 = _
        rw [hw]; rfl
      · have hmt : mt l [b, b, b] a = (a + 2, false) := by
          simp only [mt]; rw [if_pos c0, if_pos c1, if_neg c2]
        refine ⟨⟨fun _ => ?_, stay⟩, fun _ h => by rw [hmt] at h; cases h⟩
        rw [hmt]
        show (ww names l (a, 0)).2 = _
        unfold ww
        simp only
        rw [w1, w2, no f2 c2 (by omega)]
    · have hmt : mt l [b, b, b] a = (a + 1, false) := by
        simp only [mt]; rw [if_pos c0, if_neg c1]
      refine ⟨⟨fun _ => ?_, stay⟩, fun _ h => by rw [hmt] at h; cases h⟩
      rw [hmt]
      show (ww names l (a, 0)).2 = _
      unfold ww
      simp only
      rw [w1, no f1 c1 (by omega)]
  · have hmt : mt l [b, b, b] a = (a, false) := by
      simp only [mt]; rw [if_neg c0]
    refine ⟨⟨fun _ => ?_, stay⟩, fun _ h => by rw [hmt] at h; cases h⟩
    rw [hmt]
    show (ww names l (a, 0)).2 = _
    unfold ww
    simp only
    rw [no f0 c0 (by omega)]

theorem fit77 (i : Nat) : fitS l i 77 = begins months (cat l (bk l 2 i) (i + 1 - bk l 2 i)) := rfl
theorem fit87 (i : Nat) : fitS l i 87 = begins weeks (cat l (bk l 2 i) (i + 1 - bk l 2 i)) := rfl

end Go.Dt

namespace Go.Dt
open Go Go.Ev
set_option maxRecDepth 100000

variable {l : Ls} {a : Nat}

def zn : Ls := [[71, 77, 84], [85, 84]]
theorem zn_nms : Nms zn := ⟨by decide, by decide⟩

theorem wd_no (hg : Good l) {names : Ls} {b : UInt8} {j i n : Nat} {got : List UInt8} (hh : hit names j got = none) (hf : i < l.length → goes names j got (peek l i) = fitS l i b) (hc : ¬ (i < l.length ∧ fitS l i b = true)) :
    wd names l (n + 1) j got i 0 = (0, st l (i, false)) := by
  simp only [wd, hh]
  rw [tk_no (fun h => hc ⟨(peek_ne hg).1 h.2.1, by rw [← hf ((peek_ne hg).1 h.2.1)]; exact h.2.2⟩), if_pos rfl]
  rfl

theorem wd_yes (hg : Good l) {names : Ls} {b : UInt8} {j i n : Nat} {got : List UInt8} (hh : hit names j got = none) (hf : i < l.length → goes names j got (peek l i) = fitS l i b) (hc : i < l.length ∧ fitS l i b = true) :
    wd names l (n + 1) j got i 0 = wd names l n (j + 1) (got ++ peek l i) (i + 1) 0 := by
  have hgo : goes names j got (peek l i) = true := by rw [hf hc.1]; exact hc.2
  simp only [wd, hh]
  rw [tk_yes rfl ((peek_ne hg).2 hc.1) hgo, if_neg ((peek_ne hg).2 hc.1)]

theorem ww_stay {names : Ls} (h0 : hit names 0 [] = none) (p : Nat × Int) (hp : p.2 ≠ 0) : (ww names l p).2 = p := by
  unfold ww
  simp only [wd, h0]
  have he : (tk (goes names 0 []) l p.1 p.2).1 = [] := by unfold tk; rw [if_neg (fun hh => hp hh.1)]
  rw [if_pos he]
  exact tk_stay hp

theorem fit71 (i : Nat) : fitS l i 71 = decide (low (peek l i) = [103]) := rfl
theorem fit109 (i : Nat) : fitS l i 109 = decide (low (peek l i) = [109]) := rfl
theorem fit84 (i : Nat) : fitS l i 84 = decide (low (peek l i) = [116]) := rfl
theorem fit85 (i : Nat) : fitS l i 85 = decide (low (peek l i) = [117]) := rfl

theorem goes_zn0 (c : List UInt8) : goes zn 0 [] c = (decide ([103] = low c) || decide ([117] = low c)) := by
  rw [Bool.eq_iff_iff]; simp [goes, zn, low, low1]
  exact or_congr decide_eq_true_iff.symm decide_eq_true_iff.symm

theorem goes_zn1 (g c : List UInt8) : goes zn 1 g c = ((decide ([103] = low g) && decide ([109] = low c)) || (decide ([117] = low g) && decide ([116] = low c))) := by
  rw [Bool.eq_iff_iff]; simp [goes, zn, low, low1]
  exact or_congr (and_congr decide_eq_true_iff.symm decide_eq_true_iff.symm) (and_congr decide_eq_true_iff.symm decide_eq_true_iff.symm)

theorem goes_zn2 (g c : List UInt8) : goes zn 2 g c = (decide ([103, 109] = low g) && decide ([116] = low c)) := by
  rw [Bool.eq_iff_iff]; simp [goes, zn, low, low1]
  exact and_congr decide_eq_true_iff.symm decide_eq_true_iff.symm

theorem hit_zn0 : hit zn 0 [] = none := by decide
theorem hit_zn1 (g : List UInt8) : hit zn 1 g = none := by simp [hit, zn]
theorem hit_zn2 (g : List UInt8) : hit zn 2 g = if decide ([117, 116] = low g) = true then some 1 else none := by
  by_cases h : [117, 116] = low g
  · rw [if_pos (decide_eq_true h)]
    unfold low at h
    simp [hit, zn, low, low1, List.findIdx?_cons, ← h]
  · rw [if_neg (by rw [decide_eq_false h]; simp)]
    unfold low at h
    simp [hit, zn, low, low1, List.findIdx?_cons, h]
theorem hit_zn3 (g : List UInt8) : hit zn 3 g = if decide ([103, 109, 116] = low g) = true then some 0 else none := by
  by_cases h : [103, 109, 116] = low g
  · rw [if_pos (decide_eq_true h)]
    unfold low at h
    simp [hit, zn, low, low1, List.findIdx?_cons, ← h]
  · rw [if_neg (by rw [decide_eq_false h]; simp)]
    unfold low at h
    simp [hit, zn, low, low1, List.findIdx?_cons, h]

theorem zone_sim (hg : Good l) : Sim l (fun p => (ww zn l p).2) (if low (peek l a) = [117] then [85, 84] else [71, 109, 84]) a := by
  refine ⟨fun _ => ?_, ww_stay hit_zn0⟩
  by_cases hu : low (peek l a) = [117]
  · rw [if_pos hu]
    have f0 : a < l.length → goes zn 0 [] (peek l a) = fitS l a 85 := fun _ => by rw [goes_zn0, fit85, hu]; decide
    by_cases c0 : a < l.length ∧ fitS l a 85 = true
    · have w1 := wd_yes (n := 4) hg hit_zn0 f0 c0
      have f1 : a + 1 < l.length → goes zn 1 ([] ++ peek l a) (peek l (a + 1)) = fitS l (a + 1) 84 := fun _ => by
        rw [goes_zn1, fit84, List.nil_append, hu, decide_eq_false (by decide : ¬ ([103] : List UInt8) = [117]), decide_eq_true (rfl : ([117] : List UInt8) = [117]), Bool.false_and, Bool.false_or, Bool.true_and, decide_eq_decide]
        exact eq_comm
      by_cases c1 : a + 1 < l.length ∧ fitS l (a + 1) 84 = true
      · have w2 := wd_yes (n := 3) hg (hit_zn1 _) f1 c1
        have hmt : mt l [85, 84] a = (a + 2, true) := by simp only [mt]; rw [if_pos c0, if_pos c1]
        have h84 : low (peek l (a + 1)) = [116] := by have := c1.2; rw [fit84] at this; exact of_decide_eq_true this
        have hh : hit zn (0 + 1 + 1) ([] ++ peek l a ++ peek l (a + 1)) = some 1 := by
          rw [show 0 + 1 + 1 = 2 from rfl, hit_zn2, List.nil_append, low_append, hu, h84, if_pos (by decide)]
        rw [hmt]
        show (ww zn l (a, 0)).2 = _
        unfold ww
        simp only
        rw [w1, w2]
        simp only [wd, hh]
        rfl
      · have hmt : mt l [85, 84] a = (a + 1, false) := by simp only [mt]; rw [if_pos c0, if_neg c1]
        rw [hmt]
        show (ww zn l (a, 0)).2 = _
        unfold ww
        simp only
        rw [w1, wd_no hg (hit_zn1 _) f1 c1]
    · have hmt : mt l [85, 84] a = (a, false) := by simp only [mt]; rw [if_neg c0]
      rw [hmt]
      show (ww zn l (a, 0)).2 = _
      unfold ww
      simp only
      rw [wd_no hg hit_zn0 f0 c0]
  · rw [if_neg hu]
    have f0 : a < l.length → goes zn 0 [] (peek l a) = fitS l a 71 := fun _ => by
      rw [goes_zn0, fit71, decide_eq_false (fun h => hu h.symm : ¬ ([117] : List UInt8) = low (peek l a)), Bool.or_false, decide_eq_decide]
      exact eq_comm
    by_cases c0 : a < l.length ∧ fitS l a 71 = true
    · have w1 := wd_yes (n := 4) hg hit_zn0 f0 c0
      have h71 : low (peek l a) = [103] := by have := c0.2; rw [fit71] at this; exact of_decide_eq_true this
      have f1 : a + 1 < l.length → goes zn 1 ([] ++ peek l a) (peek l (a + 1)) = fitS l (a + 1) 109 := fun _ => by
        rw [goes_zn1, fit109, List.nil_append, h71, decide_eq_true (rfl : ([103] : List UInt8) = [103]), decide_eq_false (by decide : ¬ ([117] : List UInt8) = [103]), Bool.false_and, Bool.or_false, Bool.true_and, decide_eq_decide]
        exact eq_comm
      by_cases c1 : a + 1 < l.length ∧ fitS l (a + 1) 109 = true
      · have w2 := wd_yes (n := 3) hg (hit_zn1 _) f1 c1
        have h109 : low (peek l (a + 1)) = [109] := by have := c1.2; rw [fit109] at this; exact of_decide_eq_true this
        have hh : hit zn (0 + 1 + 1) ([] ++ peek l a ++ peek l (a + 1)) = none := by
          rw [show 0 + 1 + 1 = 2 from rfl, hit_zn2, List.nil_append, low_append, h71, h109, if_neg (by decide)]
        have f2 : a + 1 + 1 < l.length → goes zn (0 + 1 + 1) ([] ++ peek l a ++ peek l (a + 1)) (peek l (a + 1 + 1)) = fitS l (a + 1 + 1) 84 := fun _ => by
          rw [show 0 + 1 + 1 = 2 from rfl, goes_zn2, fit84, List.nil_append, low_append, h71, h109, (by decide : decide (([103, 109] : List UInt8) = [103] ++ [109]) = true), Bool.true_and, decide_eq_decide]
          exact eq_comm
        by_cases c2 : a + 1 + 1 < l.length ∧ fitS l (a + 1 + 1) 84 = true
        · have w3 := wd_yes (n := 2) hg hh f2 c2
          have h84 : low (peek l (a + 1 + 1)) = [116] := by have := c2.2; rw [fit84] at this; exact of_decide_eq_true this
          have hmt : mt l [71, 109, 84] a = (a + 3, true) := by simp only [mt]; rw [if_pos c0, if_pos c1, if_pos c2]
          have hh3 : hit zn (0 + 1 + 1 + 1) ([] ++ peek l a ++ peek l (a + 1) ++ peek l (a + 1 + 1)) = some 0 := by
            rw [show 0 + 1 + 1 + 1 = 3 from rfl, hit_zn3, List.nil_append, low_append, low_append, h71, h109, h84, if_pos (by decide)]
          rw [hmt]
          show (ww zn l (a, 0)).2 = _
          unfold ww
          simp only
          rw [w1, w2, w3]
          simp only [wd, hh3]
          rfl
        · have hmt : mt l [71, 109, 84] a = (a + 2, false) := by simp only [mt]; rw [if_pos c0, if_pos c1, if_neg c2]
          rw [hmt]
          show (ww zn l (a, 0)).2 = _
          unfold ww
          simp only
          rw [w1, w2, wd_no hg hh f2 c2]
      · have hmt : mt l [71, 109, 84] a = (a + 1, false) := by simp only [mt]; rw [if_pos c0, if_neg c1]
        rw [hmt]
        show (ww zn l (a, 0)).2 = _
        unfold ww
        simp only
        rw [w1, wd_no hg (hit_zn1 _) f1 c1]
    · have hmt : mt l [71, 109, 84] a = (a, false) := by simp only [mt]; rw [if_neg c0]
      rw [hmt]
      show (ww zn l (a, 0)).2 = _
      unfold ww
      simp only
      rw [wd_no hg hit_zn0 f0 c0]

/-- What a stage yields where all is well. -/
theorem st_true {r : Nat × Bool} (h : r.2 = true) : st l r = (r.1, 0) := by unfold st; rw [h, if_pos rfl]

theorem st_false {r : Nat × Bool} (h : r.2 = false) : (st l r).2 ≠ 0 := fun h0 => by
  have := st_zero h0
  rw [h] at this; cases this

def dq (l : Ls) (a : Nat) : List UInt8 := if isdig (peek l (a + 1)) = true then [57, 57] else [57]

theorem n12_sim (hg : Good l) : Sim l (fun p => (n12S l p).2) (dq l a) a ∧ (a ≤ l.length → (mt l (dq l a) a).2 = true → (n12S l (a, 0)).1 = dv l (dq l a).length 0 a) := by
  have n1 := num10 (a := a) hg
  have n2 := num10 (a := a + 1) hg
  have stay : ∀ p : Nat × Int, p.2 ≠ 0 → (n12S l p).2 = p := fun p hp => by
    have h1 : (nn 10 1 l p).2 = p := n1.sim.stay p hp
    simp only [n12S]
    split
    · rw [h1]; exact n1.sim.stay p hp
    · exact h1
  by_cases hd : isdig (peek l (a + 1)) = true
  · have hq : dq l a = [57] ++ [57] := by unfold dq; rw [if_pos hd]; rfl
    rw [hq]
    have go : a ≤ l.length → (n12S l (a, 0)).2 = st l (mt l ([57] ++ [57]) a) ∧ ((mt l ([57] ++ [57]) a).2 = true → (n12S l (a, 0)).1 = dv l 2 0 a) := fun ha => by
      have h1 : (nn 10 1 l (a, 0)).2 = _ := n1.sim.go ha
      rw [mt_append]
      cases hm : (mt l [57] a).2 with
      | true =>
        have hle := mt_len (l := l) (p := [57]) ha
        have hpos := mt_true hm
        rw [st_true hm, hpos] at h1
        have hv := n1.val ha hm
        have h2 : (nn 10 1 l (a + 1, 0)).2 = _ := n2.sim.go (by rw [hpos] at hle; exact hle)
        rw [if_pos rfl]
        have h1' : (nn 10 1 l (a, 0)).2 = (a + 1, 0) := h1
        have e : n12S l (a, 0) = ((nn 10 1 l (a, 0)).1 * 10 + (nn 10 1 l (a + 1, 0)).1, (nn 10 1 l (a + 1, 0)).2) := by
          simp only [n12S, h1']; rw [if_pos hd]
        rw [e]
        refine ⟨h2, fun hm2 => ?_⟩
        have hv2 := n2.val (by rw [hpos] at hle; exact hle) hm2
        simp only
        rw [hv, hv2]
        simp [dv]
      | false =>
        rw [if_neg (by simp)]
        refine ⟨?_, fun h => by rw [hm] at h; cases h⟩
        have hne := st_false (l := l) hm
        simp only [n12S]
        split
        · rw [h1]; exact n1.sim.stay _ hne
        · exact h1
    exact ⟨⟨fun ha => (go ha).1, stay⟩, fun ha hm => (go ha).2 hm⟩
  · have hq : dq l a = [57] := by unfold dq; rw [if_neg hd]
    rw [hq]
    refine ⟨⟨fun ha => ?_, stay⟩, fun ha hm => ?_⟩
    · have h1 : (nn 10 1 l (a, 0)).2 = _ := n1.sim.go ha
      show (n12S l (a, 0)).2 = _
      cases hm : (mt l [57] a).2 with
      | true =>
        have hpos := mt_true hm
        rw [← h1]
        have h1' : (nn 10 1 l (a, 0)).2 = (a + 1, 0) := by rw [h1, st_true hm, hpos]; rfl
        simp only [n12S, h1']
        rw [if_neg hd, h1']
      | false =>
        have hne := st_false (l := l) hm
        simp only [n12S]
        split
        · rw [h1]; exact n1.sim.stay _ hne
        · exact h1
    · have h1 : (nn 10 1 l (a, 0)).2 = _ := n1.sim.go ha
      have hpos := mt_true hm
      have h1' : (nn 10 1 l (a, 0)).2 = (a + 1, 0) := by rw [h1, st_true hm, hpos]; rfl
      have hv := n1.val ha hm
      have e : n12S l (a, 0) = nn 10 1 l (a, 0) := by simp only [n12S, h1']; rw [if_neg hd]
      rw [e, hv]; rfl

def hq (may : Bool) (l : Ls) (a : Nat) : List UInt8 := if may = true ∧ peek l (a + 5) ≠ [58] then [50, 51, 58, 53, 57] else [50, 51, 58, 53, 57, 58, 53, 57]

theorem hms_sim (hg : Good l) (may : Bool) : Sim l (fun p => (hmsS may l p).2) (hq may l a) a ∧ (a ≤ l.length → (mt l (hq may l a) a).2 = true → (hmsS may l (a, 0)).1 = 3600 * dv l 2 0 a + 60 * dv l 2 0 (a + 3) + if may = true ∧ peek l (a + 5) ≠ [58] then 0 else dv l 2 0 (a + 6)) := by
  have n1 := num24 (a := a) hg
  have s1 := sim_sg (a := a + 2) hg (b := 58) (by decide)
  have n2 := num60 (a := a + 3) hg
  have s2 := sim_sg (a := a + 5) hg (b := 58) (by decide)
  have n3 := num60 (a := a + 6) hg
  have A := (n1.sim.comp s1).comp n2.sim
  have B := s2.comp n3.sim
  have bstay : ∀ X : Nat × Int, X.2 ≠ 0 → (nn 60 2 l (sg [58] l X)).2 = X := fun X h => B.stay X h
  have stay : ∀ p : Nat × Int, p.2 ≠ 0 → (hmsS may l p).2 = p := fun p hp => by
    have h1 : (nn 60 2 l (sg [58] l (nn 24 2 l p).2)).2 = p := A.stay p hp
    simp only [hmsS]
    split
    · exact h1
    · rw [h1]; exact bstay p hp
  -- the values
  have parts : a ≤ l.length → (mt l [50, 51, 58, 53, 57] a).2 = true → (nn 24 2 l (a, 0)).2 = (a + 2, 0) ∧ sg [58] l (a + 2, 0) = (a + 3, 0) ∧ (nn 60 2 l (a + 3, 0)).2 = (a + 5, 0) ∧ (nn 24 2 l (a, 0)).1 = dv l 2 0 a ∧ (nn 60 2 l (a + 3, 0)).1 = dv l 2 0 (a + 3) ∧ a + 5 ≤ l.length := fun ha hm => by
    have e1 := mt_append l [50, 51] [58, 53, 57] a
    rw [show ([50, 51] ++ [58, 53, 57] : List UInt8) = [50, 51, 58, 53, 57] from rfl] at e1
    have m1 : (mt l [50, 51] a).2 = true := by
      cases hx : (mt l [50, 51] a).2
      · rw [hx, if_neg (by simp)] at e1; rw [e1, hx] at hm; cases hm
      · rfl
    rw [m1, if_pos rfl] at e1
    have e2 := mt_append l [58] [53, 57] (a + 2)
    rw [show ([58] ++ [53, 57] : List UInt8) = [58, 53, 57] from rfl] at e2
    rw [show a + ([50, 51] : List UInt8).length = a + 2 from rfl] at e1
    have m2 : (mt l [58] (a + 2)).2 = true := by
      cases hx : (mt l [58] (a + 2)).2
      · rw [hx, if_neg (by simp)] at e2; rw [e1, e2, hx] at hm; cases hm
      · rfl
    rw [m2, if_pos rfl, show a + 2 + ([58] : List UInt8).length = a + 3 from rfl] at e2
    have m3 : (mt l [53, 57] (a + 3)).2 = true := by rw [e1, e2] at hm; exact hm
    have l1 := mt_len (l := l) (p := [50, 51]) ha
    rw [mt_true m1] at l1
    have l2 := mt_len (l := l) (p := [58]) l1
    rw [show a + ([50, 51] : List UInt8).length = a + 2 from rfl, mt_true m2] at l2
    have l3 := mt_len (l := l) (p := [53, 57]) l2
    rw [show a + 2 + ([58] : List UInt8).length = a + 3 from rfl, mt_true m3] at l3
    have g1 : (nn 24 2 l (a, 0)).2 = _ := n1.sim.go ha
    have g2 : sg [58] l (a + 2, 0) = _ := s1.go l1
    have g3 : (nn 60 2 l (a + 3, 0)).2 = _ := n2.sim.go l2
    rw [st_true m1, mt_true m1] at g1
    rw [st_true m2, mt_true m2] at g2
    rw [st_true m3, mt_true m3] at g3
    exact ⟨g1, g2, g3, n1.val ha m1, n2.val l2 m3, l3⟩
  have Ago : a ≤ l.length → (nn 60 2 l (sg [58] l (nn 24 2 l (a, 0)).2)).2 = st l (mt l [50, 51, 58, 53, 57] a) := fun ha => A.go ha
  by_cases hc : may = true ∧ peek l (a + 5) ≠ [58]
  · have hqe : hq may l a = [50, 51, 58, 53, 57] := by unfold hq; rw [if_pos hc]
    rw [hqe, if_pos hc]
    refine ⟨⟨fun ha => ?_, stay⟩, fun ha hm => ?_⟩
    · show (hmsS may l (a, 0)).2 = _
      have h1 := Ago ha
      cases hm : (mt l [50, 51, 58, 53, 57] a).2 with
      | true =>
        obtain ⟨p1, p2, p3, p4, p5, _⟩ := parts ha hm
        simp only [hmsS, p1, p2, p3]
        rw [if_pos hc]
        rw [p1, p2, p3] at h1
        exact h1
      | false =>
        have hne := st_false (l := l) hm
        simp only [hmsS]
        split
        · exact h1
        · rw [h1]; exact bstay _ hne
    · obtain ⟨p1, p2, p3, p4, p5, _⟩ := parts ha hm
      simp only [hmsS, p1, p2, p3, p4, p5]
      rw [if_pos hc]
      simp
  · have hqe : hq may l a = [50, 51, 58, 53, 57] ++ [58, 53, 57] := by unfold hq; rw [if_neg hc]; rfl
    rw [hqe, if_neg hc]
    have Bgo : a + 5 ≤ l.length → (nn 60 2 l (sg [58] l (a + 5, 0))).2 = st l (mt l [58, 53, 57] (a + 5)) := fun ha => B.go ha
    refine ⟨⟨fun ha => ?_, stay⟩, fun ha hm => ?_⟩
    · show (hmsS may l (a, 0)).2 = _
      have h1 := Ago ha
      rw [mt_append]
      cases hm : (mt l [50, 51, 58, 53, 57] a).2 with
      | true =>
        obtain ⟨p1, p2, p3, p4, p5, p6⟩ := parts ha hm
        rw [if_pos rfl]
        simp only [hmsS, p1, p2, p3]
        rw [if_neg hc]
        exact Bgo p6
      | false =>
        have hne := st_false (l := l) hm
        rw [if_neg (by simp)]
        simp only [hmsS]
        split
        · exact h1
        · rw [h1]; exact bstay _ hne
    · rw [mt_append] at hm
      cases hm1 : (mt l [50, 51, 58, 53, 57] a).2 with
      | false => rw [hm1, if_neg (by simp)] at hm; rw [hm1] at hm; cases hm
      | true =>
        rw [hm1, if_pos rfl] at hm
        obtain ⟨p1, p2, p3, p4, p5, p6⟩ := parts ha hm1
        have e2 := mt_append l [58] [53, 57] (a + 5)
        have hm' : (mt l ([58] ++ [53, 57]) (a + 5)).2 = true := hm
        have m2 : (mt l [58] (a + 5)).2 = true := by
          cases hx : (mt l [58] (a + 5)).2
          · rw [hx, if_neg (by simp)] at e2; rw [e2, hx] at hm'; cases hm'
          · rfl
        rw [m2, if_pos rfl] at e2
        have m3 : (mt l [53, 57] (a + 6)).2 = true := by rw [e2] at hm'; exact hm'
        have l2 := mt_len (l := l) (p := [58]) p6
        rw [mt_true m2] at l2
        have g2 : sg [58] l (a + 5, 0) = _ := s2.go p6
        rw [st_true m2, mt_true m2] at g2
        have g2' : sg [58] l (a + 5, 0) = (a + 6, 0) := g2
        have v3 := n3.val l2 m3
        simp only [hmsS, p1, p2, p3, p4, p5, g2', v3]
        rw [if_neg hc]

def oq (l : Ls) (a : Nat) : List UInt8 := [if peek l a = [45] then 45 else 43, 50, 51, 53, 57]

theorem off_sim (hg : Good l) : Sim l (fun p => (offS l p).2) (oq l a) a ∧ (a ≤ l.length → (mt l (oq l a) a).2 = true → (offS l (a, 0)).1 = if peek l a = [45] then -(60 * dv l 2 0 (a + 1) + dv l 2 0 (a + 3)) else 60 * dv l 2 0 (a + 1) + dv l 2 0 (a + 3)) := by
  have s1 : Sim l (fun p => (tk (fun x => decide (x = [43]) || decide (x = [45])) l p.1 p.2).2) [if peek l a = [45] then 45 else 43] a := sim_tk hg fun _ => by
    by_cases h : peek l a = [45]
    · rw [if_pos h, fit_own (by decide), h]; decide
    · rw [if_neg h, fit_own (by decide), decide_eq_false h, Bool.or_false]
  have n1 := num24 (a := a + 1) hg
  have n2 := num60 (a := a + 3) hg
  have A := (s1.comp n1.sim).comp n2.sim
  refine ⟨⟨fun ha => A.go ha, fun p hp => A.stay p hp⟩, fun ha hm => ?_⟩
  have hm' : (mt l ([if peek l a = [45] then 45 else 43] ++ [50, 51, 53, 57]) a).2 = true := hm
  clear hm A
  generalize (if peek l a = [45] then (45 : UInt8) else 43) = b0 at s1 hm'
  have e1 := mt_append l [b0] [50, 51, 53, 57] a
  have m1 : (mt l [b0] a).2 = true := by
    cases hx : (mt l [b0] a).2
    · rw [hx, if_neg (by simp)] at e1; rw [e1, hx] at hm'; cases hm'
    · rfl
  rw [m1, if_pos rfl] at e1
  have e2 := mt_append l [50, 51] [53, 57] (a + 1)
  have hm2 : (mt l ([50, 51] ++ [53, 57]) (a + 1)).2 = true := by rw [e1] at hm'; exact hm'
  have m2 : (mt l [50, 51] (a + 1)).2 = true := by
    cases hx : (mt l [50, 51] (a + 1)).2
    · rw [hx, if_neg (by simp)] at e2; rw [e2, hx] at hm2; cases hm2
    · rfl
  rw [m2, if_pos rfl] at e2
  have m3 : (mt l [53, 57] (a + 3)).2 = true := by rw [e2] at hm2; exact hm2
  have l1 := mt_len (l := l) (p := [b0]) ha
  rw [mt_true m1] at l1
  have l2 := mt_len (l := l) (p := [50, 51]) l1
  rw [show a + [b0].length = a + 1 from rfl, mt_true m2] at l2
  have g1 : (tk (fun x => decide (x = [43]) || decide (x = [45])) l a 0).2 = _ := s1.go ha
  rw [st_true m1, mt_true m1] at g1
  have g1' : (tk (fun x => decide (x = [43]) || decide (x = [45])) l a 0).2 = (a + 1, 0) := g1
  have g2 : (nn 24 2 l (a + 1, 0)).2 = _ := n1.sim.go l1
  rw [st_true m2, mt_true m2] at g2
  have g2' : (nn 24 2 l (a + 1, 0)).2 = (a + 3, 0) := g2
  have v1 := n1.val l1 m2
  have v2 := n2.val l2 m3
  -- the sign
  have hlt : a < l.length := Nat.lt_of_lt_of_le (Nat.lt_succ_self a) l1
  have hs : (tk (fun x => decide (x = [43]) || decide (x = [45])) l a 0).1 = peek l a := by
    by_cases hc : (decide (peek l a = [43]) || decide (peek l a = [45])) = true
    · rw [tk_yes rfl ((peek_ne hg).2 hlt) hc]
    · exfalso
      rw [tk_no (fun h => hc h.2.2)] at g1'
      have := congrArg Prod.fst g1'
      simp at this
  simp only [offS, hs, g1', g2', v1, v2]

end Go.Dt
