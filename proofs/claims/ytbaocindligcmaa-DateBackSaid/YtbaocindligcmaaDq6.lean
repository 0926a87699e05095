/- Parse of print. -/
import Derived.Test.YtbaocindligcmaaDq5
namespace Go.Dt
open Go Go.Ev
set_option maxRecDepth 100000

variable {l : Ls} {a : Nat} {r : List UInt8}

theorem decode_ascii {s : List UInt8} {i : Nat} (h : i < s.length) (hb : (s.getD i 0).toNat < 128) : (Go.Utf8.decode ⟨s.toArray⟩ i).2 = 1 := by
  have hg : (ByteArray.get! ⟨s.toArray⟩ (i + 0)).toNat < 128 := by
    have : (ByteArray.get! ⟨s.toArray⟩ (i + 0)) = s.getD i 0 := by
      show s.toArray[i + 0]! = _
      rw [Nat.add_zero, getElem!_pos s.toArray i (by simpa using h), getD_lt h]
      simp
    rw [this]; exact hb
  unfold Go.Utf8.decode
  simp only [if_pos hg]

theorem sing_snoc {s : List UInt8} {i : Nat} (h : i < s.length) : sing (s.take (i + 1)) = sing (s.take i) ++ [[s.getD i 0]] := by
  rw [take_snoc h 0, sing, List.map_append]; rfl

theorem letters_ascii {s : List UInt8} (hs : s.length ≤ 1000) (hb : ∀ b ∈ s, b.toNat < 128) : F54 ((s, ()), ()) = some ((), (sing s, ())) := by
  obtain ⟨x, h1, h2⟩ := loop_ind (f := B54_0) (fun p => ∃ (i : Nat), p = ((s, (), ((i - 1 : Nat) : Int), (), ()), (sing (s.take (i - 1)), (s, i), ())) ∧ i ≤ s.length) (fun p => s.length - p.2.2.1.2)
    (fun x => x = ((s, (), ((s.length - 1 : Nat) : Int), ()), (sing (s.take (s.length - 1)), ())))
    (fun p ⟨i, hp, hi⟩ => by
      subst hp
      by_cases hlt : i < s.length
      · left
        have c1 : decide (i < s.length) = true := decide_eq_true hlt
        have hd : (Go.Utf8.decode ⟨s.toArray⟩ i).2 = 1 := decode_ascii hlt (hb _ (by rw [getD_lt hlt]; exact List.getElem_mem hlt))
        cases i with
        | zero =>
          have c2 : decide ((0 : Int) < ((0 : Nat) : Int)) = false := by simp
          refine ⟨((s, (), ((1 - 1 : Nat) : Int), (), ()), (sing (s.take (1 - 1)), (s, 1), ())), ?_, ⟨1, rfl, hlt⟩, by simp only; omega⟩
          simp only [B54_0, c1, cond_true, c2, cond_false, hd]
        | succ j =>
          have c2 : decide ((0 : Int) < ((j + 1 : Nat) : Int)) = true := decide_eq_true (by omega)
          have c3 : decide ((0 : Int) ≤ ((j + 1 - 1 : Nat) : Int)) = true := decide_eq_true (by omega)
          have c4 : decide (((j + 1 - 1 : Nat) : Int) ≤ ((j + 1 : Nat) : Int)) = true := decide_eq_true (by omega)
          have c5 : decide (((j + 1 : Nat) : Int) ≤ ((s.length : Nat) : Int)) = true := decide_eq_true (by omega)
          have e1 : List.take (((j + 1 : Nat) : Int).toNat - ((j + 1 - 1 : Nat) : Int).toNat) (List.drop ((j + 1 - 1 : Nat) : Int).toNat s) = [s.getD j 0] := by
            rw [Int.toNat_natCast, Int.toNat_natCast, Nat.add_sub_cancel, Nat.add_sub_cancel_left, List.drop_eq_getElem_cons (by omega), getD_lt (by omega)]
            rfl
          have hsl : (sing (s.take (j + 1 - 1))).length = j := by rw [sing, List.length_map, List.length_take]; omega
          have c6 : bytesOK ((sing (s.take (j + 1 - 1))).length + [[s.getD j 0]].length) 16 = true := by
            rw [hsl]
            unfold bytesOK
            simp only [List.length_cons, List.length_nil, decide_eq_true_eq]
            omega
          refine ⟨((s, (), ((j + 1 + 1 - 1 : Nat) : Int), (), ()), (sing (s.take (j + 1 + 1 - 1)), (s, j + 1 + 1), ())), ?_, ⟨j + 1 + 1, rfl, hlt⟩, by simp only; omega⟩
          have e2 : sing (s.take (j + 1 + 1 - 1)) = sing (s.take (j + 1 - 1)) ++ [[s.getD j 0]] := sing_snoc (by omega)
          rw [e2]
          simp only [B54_0, c1, cond_true, c2, c3, c4, c5, Bool.and_self, e1, c6, Option.bind_some, hd]
          rfl
      · right
        have c1 : decide (i < s.length) = false := decide_eq_false hlt
        have hie : i = s.length := by omega
        subst hie
        exact ⟨_, by simp only [B54_0, c1, cond_false] <;> rfl, rfl⟩)
    (p := ((s, (), 0, (), ()), ([], (s, 0), ()))) ⟨0, rfl, Nat.zero_le _⟩ (by unfold FUEL; simp only; omega)
  subst h2
  have h1' : L54_0 ((s, (), 0, (), ()), ([], (s, 0), ())) = some ((s, (), ((s.length - 1 : Nat) : Int), ()), (sing (s.take (s.length - 1)), ())) := h1
  simp only [F54, h1', Option.bind_some]
  by_cases h0 : s = []
  · subst h0
    rfl
  · have hl : 0 < s.length := List.length_pos_iff.2 h0
    have c0 := decide_eq_false h0
    have c3 : decide ((0 : Int) ≤ ((s.length - 1 : Nat) : Int)) = true := decide_eq_true (by omega)
    have c4 : decide (((s.length - 1 : Nat) : Int) ≤ ((s.length : Nat) : Int)) = true := decide_eq_true (by omega)
    have e1 : List.take (((s.length : Nat) : Int).toNat - ((s.length - 1 : Nat) : Int).toNat) (List.drop ((s.length - 1 : Nat) : Int).toNat s) = [s.getD (s.length - 1) 0] := by
      rw [Int.toNat_natCast, Int.toNat_natCast, List.drop_eq_getElem_cons (by omega), getD_lt (by omega), show s.length - (s.length - 1) = 1 by omega]
      rfl
    have hsl : (sing (s.take (s.length - 1))).length = s.length - 1 := by rw [sing, List.length_map, List.length_take]; omega
    have c6 : bytesOK ((sing (s.take (s.length - 1))).length + [[s.getD (s.length - 1) 0]].length) 16 = true := by
      rw [hsl]
      unfold bytesOK
      simp only [List.length_cons, List.length_nil, decide_eq_true_eq]
      omega
    have e2 : sing s = sing (s.take (s.length - 1)) ++ [[s.getD (s.length - 1) 0]] := by
      rw [← sing_snoc (by omega), show s.length - 1 + 1 = s.length by omega, List.take_length]
    rw [e2]
    simp only [c0, Bool.not_false, cond_true, c3, c4, Int.le_refl, decide_true, Bool.and_self, e1, c6, Option.bind_some]

theorem F30_true {s z day rest : Int} (h : F30 (((s, z, ()), ()), ()) = some ((day, rest, true, ()), ())) : -1439 ≤ z ∧ z ≤ 1439 ∧ -62135769600 ≤ s ∧ s ≤ 253402387200 ∧ day = (s + 60 * z) / 86400 ∧ rest = s + 60 * z - day * 86400 ∧ -719162 ≤ day ∧ day ≤ 2932896 := by
  have w1 : w64 (w64 (-719162 - 2) * 86400) = -62135769600 := by decide
  have w2 : w64 (w64 (2932896 + 2) * 86400) = 253402387200 := by decide
  by_cases hc : z < -1439 ∨ 1439 < z ∨ s < -62135769600 ∨ 253402387200 < s
  · have c1 : (decide (z < -1439) || decide (1439 < z) || decide (s < -62135769600) || decide (253402387200 < s)) = true := by
      simp only [Bool.or_eq_true, decide_eq_true_eq]; omega
    simp only [F30, F28_eq, Option.bind_some, w1, w2, c1, cond_true] at h
    cases h
  · have c1 : (decide (z < -1439) || decide (1439 < z) || decide (s < -62135769600) || decide (253402387200 < s)) = false := by
      simp only [Bool.or_eq_false_iff, decide_eq_false_iff_not]; omega
    have e30 : F30 (((s, z, ()), ()), ()) = some (((s + 60 * z) / 86400, s + 60 * z - (s + 60 * z) / 86400 * 86400, decide (-719162 ≤ (s + 60 * z) / 86400) && decide ((s + 60 * z) / 86400 ≤ 2932896), ()), ()) := by
      simp only [F30, F28_eq, Option.bind_some, w1, w2, c1, cond_false]
      rw [w64_id (n := 60 * z) (by omega) (by omega), w64_id (n := s + 60 * z) (by omega) (by omega), F26_eq (by omega) (by omega) (by omega) (by omega), Option.bind_some]
      simp only []
      generalize ht : s + 60 * z = t
      have ht1 : -62135869600 ≤ t := by omega
      have ht2 : t ≤ 253402487200 := by omega
      rw [w64_id (n := t / 86400 * 86400) (by omega) (by omega), w64_id (n := t - t / 86400 * 86400) (by omega) (by omega)]
    rw [e30] at h
    simp only [Option.some.injEq, Prod.mk.injEq, and_true, Bool.and_eq_true, decide_eq_true_eq] at h
    obtain ⟨rfl, rfl, h3, h4⟩ := h
    refine ⟨by omega, by omega, by omega, by omega, rfl, rfl, h3, h4⟩

end Go.Dt

namespace Go.Dt
open Go Go.Ev
set_option maxRecDepth 100000

variable {l : Ls} {a : Nat} {r : List UInt8}

/-- The text of a day of a month. -/
def dtx (d : Int) : List UInt8 := if d < 10 then [dgt d] else [dgt (d / 10), dgt (d % 10)]

def dsh (d : Int) : List UInt8 := if d < 10 then [32, dgt d] else [dgt (d / 10), dgt (d % 10)]

def ytx (y : Int) : List UInt8 := [dgt (y / 1000), dgt (y / 100 % 10), dgt (y / 10 % 10), dgt (y % 10)]

theorem dtx_eq {d : Int} (h : 1 ≤ d) (h2 : d ≤ 31) : F31 ((d, ()), ()) = some ((dtx d, 0, ()), ()) := by
  obtain ⟨td, l2, t1, t2, t3, t4, t5, t6⟩ := dayText h h2
  rw [dig2_eq (by omega) (by omega)] at t2
  simp only [Option.some.injEq, Prod.mk.injEq, and_true] at t2
  subst t2
  rw [t1, t6, dtx]
  by_cases hd : d < 10
  · rw [decide_eq_true hd, if_pos hd]
    simp only [cond_true, List.drop_succ_cons, List.drop_zero, List.take_succ_cons, List.take_zero, show d % 10 = d by omega]
  · rw [decide_eq_false hd, if_neg hd]
    rfl

/-- What a moment's print is. -/
theorem print_text {s z day rest y m d k : Int} {W M : List UInt8} (e30 : F30 (((s, z, ()), ()), ()) = some ((day, rest, true, ()), ())) (e10 : F10 ((day, ()), ()) = some (((y, m, d, ()), 0, ()), ())) (hv : Valid y m d) (hd31 : d ≤ 31)
    (hk : F13 ((day, ()), ()) = some (k, ())) (k0 : 0 ≤ k) (k6 : k ≤ 6) (hW : List.getD weeks k.toNat [] = W) (hM : List.getD months (m - 1).toNat [] = M) (hWl : W.length = 3) (hMl : M.length = 3) :
    F17 (((s, z, ()), ()), ()) = some ((W ++ (44 :: 32 :: (dtx d ++ (32 :: (M ++ (32 :: (ytx y ++ (32 :: (clk rest ++ (32 :: zon z))))))))), 0, ()), ()) ∧
    F19 (((s, z, ()), ()), ()) = some ((dsh d ++ (45 :: (M ++ (45 :: (ytx y ++ (32 :: (clk rest ++ (32 :: zon z))))))), 0, ()), ()) := by
  obtain ⟨a1, a2, a3, a4, a5, a6⟩ := hv
  obtain ⟨z1, z2, s1, s2, hday, hrest, n1, n2⟩ := F30_true e30
  have hm1 : w64 (m - 1) = m - 1 := w64_id (by omega) (by omega)
  have ck : (decide ((0 : Int) ≤ k) && decide (k < ((weeks.length : Nat) : Int))) = true := by simp [weeks]; omega
  have cm : (decide ((0 : Int) ≤ m - 1) && decide (m - 1 < ((months.length : Nat) : Int))) = true := by simp [months]; omega
  have f32 : F32 ((), ()) = some ((), (weeks, ())) := rfl
  have f33 : F33 ((), ()) = some ((), (months, ())) := rfl
  have ey : F34 ((y, 4, ()), ()) = some (ytx y, ()) := dig4_eq (by omega) (by omega)
  have ec := clk_eq (s := rest) (by omega) (by omega)
  have ez := zon_eq z1 z2
  have ly : (ytx y).length = 4 := rfl
  have lc : (clk rest).length = 8 := rfl
  have lz : (zon z).length = 5 := rfl
  have ld : (dtx d).length ≤ 2 := by unfold dtx; split <;> simp
  constructor
  · simp only [F17, e30, Option.bind_some, Bool.not_true, cond_false, e10, dtx_eq a5 hd31, f32, hk, ck, hW, f33, hm1, cm, hM, ey, ec, ez, cond_true]
    simp (disch := (simp only [List.length_append, List.length_cons, List.length_nil]; omega)) only [fits_true, cond_true]
    simp only [List.append_assoc, List.cons_append, List.nil_append]
  · have e34 := dig2_eq (v := d) (by omega) (by omega)
    have key : (Option.bind (cond (decide (d < 10)) (Option.bind (cond (decide ((1 : Int) ≤ ((List.length [dgt (d / 10), dgt (d % 10)] : Nat) : Int)) && decide (((List.length [dgt (d / 10), dgt (d % 10)] : Nat) : Int) ≤ ((List.length [dgt (d / 10), dgt (d % 10)] : Nat) : Int)))
          (cond (fits (List.length ([32] : List UInt8) + List.length (List.take (Int.toNat ((List.length [dgt (d / 10), dgt (d % 10)] : Nat) : Int) - 1) (List.drop 1 [dgt (d / 10), dgt (d % 10)])))) (some (((), rest, (), ([32] : List UInt8) ++ List.take (Int.toNat ((List.length [dgt (d / 10), dgt (d % 10)] : Nat) : Int) - 1) (List.drop 1 [dgt (d / 10), dgt (d % 10)]), ()), ((s, z, ()), (y, m, d, ()), ()))) none) none)
            fun p4 => some (((), p4.1.2.1, (), p4.1.2.2.2.1, ()), ((p4.2.1.1, p4.2.1.2.1, ()), (p4.2.2.1.1, p4.2.2.1.2.1, p4.2.2.1.2.2.1, ()), ())))
          (some (((), rest, (), [dgt (d / 10), dgt (d % 10)], ()), ((s, z, ()), (y, m, d, ()), ()))) : Option ((Unit × Int × Unit × List UInt8 × Unit) × (Int × Int × Unit) × (Int × Int × Int × Unit) × Unit)) some) = some (((), rest, (), dsh d, ()), ((s, z, ()), (y, m, d, ()), ())) := by
      unfold dsh
      by_cases hd : d < 10
      · rw [decide_eq_true hd, if_pos hd, show dgt d = dgt (d % 10) by rw [show d % 10 = d by omega]]
        rfl
      · rw [decide_eq_false hd, if_neg hd]
        rfl
    rw [Option.bind_fun_some] at key
    have lds : (dsh d).length = 2 := by unfold dsh; split <;> simp
    simp only [F19, e30, Option.bind_some, Bool.not_true, cond_false, e10, e34]
    rw [key]
    simp only [Option.bind_some, f33, hm1, cm, hM, ey, ec, ez, cond_true]
    simp (disch := (simp only [List.length_append, List.length_cons, List.length_nil]; omega)) only [fits_true, cond_true]
    simp only [List.append_assoc, List.cons_append, List.nil_append]

theorem n12_ok {d : Int} (h : 1 ≤ d) (h2 : d ≤ 31) (ha : At l a (dtx d ++ (32 :: r))) : ∃ a', n12S l (a, 0) = (d, a', 0) ∧ At l a' (32 :: r) := by
  unfold dtx at ha
  by_cases hd : d < 10
  · rw [if_pos hd] at ha
    have e1 := At.nn1 (bb := 10) ha (by omega) (by omega) (by omega)
    have a1 : At l (a + 1) (32 :: r) := At.next ha
    have p1 := a1.peek
    refine ⟨a + 1, ?_, a1⟩
    have hn : ¬ (isdig [32] = true) := by decide
    simp only [n12S, e1, p1, if_neg hn]
  · rw [if_neg hd] at ha
    have e1 := At.nn1 (bb := 10) ha (by omega) (by omega) (by omega)
    have a1 := At.next ha
    have p1 := At.peek a1
    have e2 := At.nn1 (bb := 10) a1 (by omega) (by omega) (by omega)
    refine ⟨a + 1 + 1, ?_, At.next a1⟩
    simp only [n12S, e1, p1, (dgt_is (show 0 ≤ d % 10 by omega) (by omega)).1, if_true, e2, Prod.mk.injEq, and_true]
    omega

/-- The end of a moment that is right. -/
theorem end_ok {l : Ls} {a : Nat} (hle : a = l.length) {s z day rest y m d q k : Int} (e30 : F30 (((s, z, ()), ()), ()) = some ((day, rest, true, ()), ())) (hv : Valid y m d) (hnum : num y m d = day) (hk : F13 ((day, ()), ()) = some (k, ())) (hq : q = -1 ∨ q = k) :
    ∃ st, F52 (((), ()), ((l, (a : Int), 0, y, m, d, rest, z, q, ()), ())) = some (((s, z, ()), 0, 0, ()), st) := by
  subst hle
  obtain ⟨z1, z2, s1, s2, hday, hrest, n1, n2⟩ := F30_true e30
  have c1 : decide (((l.length : Nat) : Int) < ((l.length : Nat) : Int)) = false := decide_eq_false (by omega)
  have wt : w64 (w64 (w64 (day * 86400) + rest) - w64 (60 * z)) = s := by
    rw [w64_id (n := day * 86400) (by omega) (by omega), w64_id (n := day * 86400 + rest) (by omega) (by omega), w64_id (n := 60 * z) (by omega) (by omega), w64_id (by omega) (by omega)]
    omega
  have e8 : F8 (((y, m, d, ()), ()), ()) = some ((day, 0, ()), ()) := by rw [F8_eq hv, hnum]
  have hd0 : decide ((0 : Int) = 0) = true := decide_eq_true rfl
  rcases hq with rfl | rfl
  · have c2 : decide ((0 : Int) ≤ -1) = false := by decide
    refine ⟨((l, (l.length : Int), 0, y, m, d, rest, z, -1, ()), ()), ?_⟩
    simp only [F52, c1, Bool.and_false, cond_false, Option.bind_some, hd0, Bool.not_true, e8, wt, e30, Bool.or_self, Bool.not_false, cond_true, c2]
    rfl
  · by_cases h0 : 0 ≤ q
    · have c2 := decide_eq_true h0
      have c3 : decide (q = q) = true := decide_eq_true rfl
      refine ⟨((l, (l.length : Int), 0, y, m, d, rest, z, q, ()), ()), ?_⟩
      simp only [F52, c1, Bool.and_false, cond_false, Option.bind_some, hd0, Bool.not_true, e8, wt, e30, Bool.or_self, Bool.not_false, cond_true, c2, hk, c3]
      rfl
    · have c2 := decide_eq_false h0
      refine ⟨((l, (l.length : Int), 0, y, m, d, rest, z, q, ()), ()), ?_⟩
      simp only [F52, c1, Bool.and_false, cond_false, Option.bind_some, hd0, Bool.not_true, e8, wt, e30, Bool.or_self, Bool.not_false, cond_true, c2]
      rfl

theorem At.lt {b : UInt8} (h : At l a (b :: r)) : a < l.length := by
  have h' : l.drop a = [b] :: sing r := h
  have := congrArg List.length h'
  rw [List.length_drop, List.length_cons] at this
  omega

variable {y m d s z q : Int} {a' : Nat}

theorem sign_ok (hl : l.length ≤ 1000000) {c : List UInt8} (h : a < l.length) (hq : sg c l (a, 0) = (a', 0)) : F47 (((), c, ()), ((l, (a : Int), 0, y, m, d, s, z, q, ()), ())) = some ((), ((l, (a' : Int), 0, y, m, d, s, z, q, ()), ())) := by
  have := sign_eq (y := y) (m := m) (d := d) (s := s) (z := z) (q := q) hl (p := (a, (0 : Int))) (Nat.le_of_lt h) c
  rw [hq] at this; exact this

theorem word_ok {names : Ls} (hN : Nms names) (hl : l.length ≤ 1000000) (hlc : ∀ x ∈ l, x.length ≤ 4) {k : Int} (h : a < l.length) (hq : ww names l (a, 0) = (k, a', 0)) :
    F46 (((), names, ()), ((l, (a : Int), 0, y, m, d, s, z, q, ()), ())) = some (k, ((l, (a' : Int), 0, y, m, d, s, z, q, ()), ())) := by
  have := word_eq (y := y) (m := m) (d := d) (s := s) (z := z) (q := q) hN hl hlc (p := (a, (0 : Int))) (Nat.le_of_lt h)
  rw [hq] at this; exact this

theorem num1_ok (hl : l.length ≤ 1000000) {b k : Int} (h : a < l.length) (hq : nn b 1 l (a, 0) = (k, a', 0)) : F49 (((), 1, b, ()), ((l, (a : Int), 0, y, m, d, s, z, q, ()), ())) = some (k, ((l, (a' : Int), 0, y, m, d, s, z, q, ()), ())) := by
  have := num1_eq (y := y) (m := m) (d := d) (s := s) (z := z) (q := q) hl (p := (a, (0 : Int))) (Nat.le_of_lt h) b
  rw [hq] at this; exact this

theorem num2_ok (hl : l.length ≤ 1000000) {b k : Int} (h : a < l.length) (hq : nn b 2 l (a, 0) = (k, a', 0)) : F49 (((), 2, b, ()), ((l, (a : Int), 0, y, m, d, s, z, q, ()), ())) = some (k, ((l, (a' : Int), 0, y, m, d, s, z, q, ()), ())) := by
  have := num2_eq (y := y) (m := m) (d := d) (s := s) (z := z) (q := q) hl (p := (a, (0 : Int))) (Nat.le_of_lt h) b
  rw [hq] at this; exact this

theorem num4_ok (hl : l.length ≤ 1000000) {b k : Int} (h : a < l.length) (hq : nn b 4 l (a, 0) = (k, a', 0)) : F49 (((), 4, b, ()), ((l, (a : Int), 0, y, m, d, s, z, q, ()), ())) = some (k, ((l, (a' : Int), 0, y, m, d, s, z, q, ()), ())) := by
  have := num4_eq (y := y) (m := m) (d := d) (s := s) (z := z) (q := q) hl (p := (a, (0 : Int))) (Nat.le_of_lt h) b
  rw [hq] at this; exact this

theorem n12_run (hl : l.length ≤ 1000000) {k : Int} (h : a < l.length) (hq : n12S l (a, 0) = (k, a', 0)) : F48 (((), ()), ((l, (a : Int), 0, y, m, d, s, z, q, ()), ())) = some (k, ((l, (a' : Int), 0, y, m, d, s, z, q, ()), ())) := by
  have := n12_eq (y := y) (m := m) (d := d) (s := s) (z := z) (q := q) hl (p := (a, (0 : Int))) (Nat.le_of_lt h)
  rw [hq] at this; exact this

theorem hms_run (hl : l.length ≤ 1000000) {may : Bool} {k : Int} (h : a < l.length) (hq : hmsS may l (a, 0) = (k, a', 0)) : F50 (((), may, ()), ((l, (a : Int), 0, y, m, d, s, z, q, ()), ())) = some ((), ((l, (a' : Int), 0, y, m, d, k, z, q, ()), ())) := by
  have := hms_eq (y := y) (m := m) (d := d) (s := s) (z := z) (q := q) hl (p := (a, (0 : Int))) (Nat.le_of_lt h) may
  rw [hq] at this; exact this

theorem off_run (hl : l.length ≤ 1000000) {k : Int} (h : a < l.length) (hq : offS l (a, 0) = (k, a', 0)) : F51 (((), ()), ((l, (a : Int), 0, y, m, d, s, z, q, ()), ())) = some ((), ((l, (a' : Int), 0, y, m, d, s, k, q, ()), ())) ∧ a' ≤ l.length := by
  have := off_eq (y := y) (m := m) (d := d) (s := s) (z := z) (q := q) hl (p := (a, (0 : Int))) (Nat.le_of_lt h)
  have h2 := off_le (l := l) (p := (a, (0 : Int))) (Nat.le_of_lt h)
  rw [hq] at this h2; exact ⟨this, h2⟩

end Go.Dt

namespace Go.Dt
open Go Go.Ev
set_option maxRecDepth 100000

theorem sing_at (s : List UInt8) : At (sing s) 0 s := rfl

theorem sing_each (s : List UInt8) : ∀ x ∈ sing s, x.length ≤ 4 := by
  intro x hx
  rw [sing, List.mem_map] at hx
  obtain ⟨b, _, rfl⟩ := hx
  simp

theorem ytx_ok {y : Int} (h : 1 ≤ y) (h2 : y ≤ 9999) {l : Ls} {a : Nat} {r : List UInt8} (ha : At l a (ytx y ++ r)) : nn 10000 4 l (a, 0) = (y, a + 4, 0) ∧ At l (a + 4) r := by
  have e := At.nn4 (bb := 10000) ha (by omega) (by omega) (by omega) (by omega) (by omega) (by omega) (by omega) (by omega) (by omega)
  refine ⟨?_, (At.next (At.next (At.next (At.next ha))))⟩
  rw [e]
  simp only [Prod.mk.injEq, and_true]
  omega

theorem dgt_lt {n : Int} (h : 0 ≤ n) (h2 : n ≤ 9) : (dgt n).toNat < 128 := dgt_small h h2

theorem small_dtx {d : Int} (h : 1 ≤ d) (h2 : d ≤ 31) : ∀ b ∈ dtx d, b.toNat < 128 := by
  unfold dtx
  split
  · intro b hb
    simp only [List.mem_cons, List.not_mem_nil, or_false] at hb
    subst hb; exact dgt_small (by omega) (by omega)
  · intro b hb
    simp only [List.mem_cons, List.not_mem_nil, or_false] at hb
    rcases hb with rfl | rfl <;> exact dgt_small (by omega) (by omega)

theorem small_dsh {d : Int} (h : 1 ≤ d) (h2 : d ≤ 31) : ∀ b ∈ dsh d, b.toNat < 128 := by
  unfold dsh
  split
  · intro b hb
    simp only [List.mem_cons, List.not_mem_nil, or_false] at hb
    rcases hb with rfl | rfl
    · decide
    · exact dgt_small (by omega) (by omega)
  · intro b hb
    simp only [List.mem_cons, List.not_mem_nil, or_false] at hb
    rcases hb with rfl | rfl <;> exact dgt_small (by omega) (by omega)

theorem small_rest {y rest z : Int} (h : 1 ≤ y) (h2 : y ≤ 9999) (h3 : 0 ≤ rest) (h4 : rest < 86400) (h5 : -1439 ≤ z) (h6 : z ≤ 1439) : ∀ b ∈ ytx y ++ (32 :: (clk rest ++ (32 :: zon z))), b.toNat < 128 := by
  intro b hb
  simp only [ytx, clk, zon, List.cons_append, List.nil_append, List.mem_cons, List.not_mem_nil, or_false] at hb
  by_cases hz : z < 0
  · simp only [if_pos hz] at hb
    rcases hb with rfl | rfl | rfl | rfl | rfl | rfl | rfl | rfl | rfl | rfl | rfl | rfl | rfl | rfl | rfl | rfl | rfl | rfl | rfl <;> first | decide | exact dgt_small (by omega) (by omega)
  · simp only [if_neg hz] at hb
    rcases hb with rfl | rfl | rfl | rfl | rfl | rfl | rfl | rfl | rfl | rfl | rfl | rfl | rfl | rfl | rfl | rfl | rfl | rfl | rfl <;> first | decide | exact dgt_small (by omega) (by omega)

theorem law7 (s z : Int) : F7 (((s, z, ()), ()), ()) = some (true, ()) := by
  rcases there s z with ⟨day, rest, y, m, d, e30, e37, hv, e10, e11⟩ | ⟨a, b, c, d, e30, e37⟩
  · obtain ⟨z1, z2, s1, s2, hday, hrest, n1, n2⟩ := F30_true e30
    have hd31 : d ≤ 31 := by have := long_le y m; have := hv.6; omega
    obtain ⟨k, hk, _, k0, k6, _⟩ := week_eq day
    obtain ⟨x1, x2, x3, hW, xd, xs1, xs2, xs3, hww⟩ := week_ok k0 k6
    obtain ⟨v1, v2, v3, hM, vs1, vs2, vs3, hmm⟩ := month_ok (k := m - 1) (by have := hv.3; omega) (by have := hv.4; omega)
    have hnum : num y m d = day := by
      obtain ⟨y', m', d', h1, h2, h3⟩ := F10_eq n1 n2
      rw [e10] at h3
      simp only [Option.some.injEq, Prod.mk.injEq, and_true] at h3
      obtain ⟨rfl, rfl, rfl⟩ := h3
      exact h2
    obtain ⟨t1, t2⟩ := print_text e30 e10 hv hd31 hk k0 k6 hW hM rfl rfl
    obtain ⟨a1, a2, a3, a4, a5, a6⟩ := hv
    have hv : Valid y m d := ⟨a1, a2, a3, a4, a5, a6⟩
    have hm1 : w64 (1 + (m - 1)) = m := by rw [w64_id (by omega) (by omega)]; omega
    have hm2 : w64 (m - 1) = m - 1 := w64_id (by omega) (by omega)
    have srest := small_rest (y := y) (rest := rest) (z := z) a1 a2 (by omega) (by omega) z1 z2
    have f32 : F32 ((), ()) = some ((), (weeks, ())) := rfl
    have f33 : F33 ((), ()) = some ((), (months, ())) := rfl
    have r23 : F23 (([x1, x2, x3] ++ (44 :: 32 :: (dtx d ++ (32 :: ([v1, v2, v3] ++ (32 :: (ytx y ++ (32 :: (clk rest ++ (32 :: zon z))))))))), ()), ()) = some (((s, z, ()), 0, 0, ()), ()) := by
      have ld : (dtx d).length ≤ 2 := by unfold dtx; split <;> simp
      generalize hT : ([x1, x2, x3] ++ (44 :: 32 :: (dtx d ++ (32 :: ([v1, v2, v3] ++ (32 :: (ytx y ++ (32 :: (clk rest ++ (32 :: zon z))))))))) : List UInt8) = T
      have hTl : T.length ≤ 100 := by
        rw [← hT]
        simp only [List.length_append, List.length_cons, List.length_nil, ytx, clk, zon]
        omega
      have hTs : ∀ b ∈ T, b.toNat < 128 := by
        intro b hb
        rw [← hT] at hb
        simp only [List.cons_append, List.nil_append, List.mem_cons, List.mem_append (s := dtx d)] at hb
        rcases hb with rfl | rfl | rfl | rfl | rfl | h | rfl | rfl | rfl | rfl | rfl | h
        · exact xs1
        · exact xs2
        · exact xs3
        · decide
        · decide
        · exact small_dtx a5 hd31 b h
        · decide
        · exact vs1
        · exact vs2
        · exact vs3
        · decide
        · exact srest b h
      have h0 : At (sing T) 0 T := sing_at T
      have hl : (sing T).length ≤ 1000000 := by rw [sing, List.length_map]; omega
      have hlc := sing_each T
      have f54 := letters_ascii (s := T) (by omega) hTs
      generalize sing T = l at h0 hl hlc f54
      rw [← hT] at h0
      have b0 : At l 0 (x1 :: x2 :: x3 :: 44 :: 32 :: (dtx d ++ (32 :: ([v1, v2, v3] ++ (32 :: (ytx y ++ (32 :: (clk rest ++ (32 :: zon z))))))))) := h0
      have p0 := At.peek b0
      have e1 := F45_eq l 0 0 0 0 0 0 0 (-1)
      rw [p0] at e1
      have e3 := word_ok (y := 0) (m := 0) (d := 0) (s := 0) (z := 0) (q := -1) weeks_nms hl hlc b0.lt (hww l 0 _ b0)
      obtain ⟨c1, hc1, b1⟩ : ∃ c, c = 0 + 3 ∧ At l c _ := ⟨_, rfl, At.next (At.next (At.next b0))⟩
      rw [← hc1] at e3
      obtain ⟨c2, q4, b2⟩ : ∃ c, sg [44] l (c1, 0) = (c, 0) ∧ At l c _ := ⟨_, At.sg b1, At.next b1⟩
      obtain ⟨c3, q5, b3⟩ : ∃ c, sg [32] l (c2, 0) = (c, 0) ∧ At l c _ := ⟨_, At.sg b2, At.next b2⟩
      obtain ⟨c4, q6, b4⟩ := n12_ok a5 hd31 b3
      obtain ⟨c5, q7, b5⟩ : ∃ c, sg [32] l (c4, 0) = (c, 0) ∧ At l c _ := ⟨_, At.sg b4, At.next b4⟩
      obtain ⟨c6, q8, b6⟩ : ∃ c, ww months l (c5, 0) = (m - 1, c, 0) ∧ At l c _ := ⟨_, hmm l c5 _ b5, At.next (At.next (At.next b5))⟩
      obtain ⟨c7, q9, b7⟩ : ∃ c, sg [32] l (c6, 0) = (c, 0) ∧ At l c _ := ⟨_, At.sg b6, At.next b6⟩
      obtain ⟨c8, q10, b8⟩ : ∃ c, nn 10000 4 l (c7, 0) = (y, c, 0) ∧ At l c _ := ⟨_, ytx_ok a1 a2 b7⟩
      obtain ⟨c9, q11, b9⟩ : ∃ c, sg [32] l (c8, 0) = (c, 0) ∧ At l c _ := ⟨_, At.sg b8, At.next b8⟩
      obtain ⟨c10, q12, b10⟩ : ∃ c, hmsS true l (c9, 0) = (rest, c, 0) ∧ At l c _ := ⟨_, hms_ok true (by omega) (by omega) b9⟩
      obtain ⟨c11, q13, b11⟩ : ∃ c, sg [32] l (c10, 0) = (c, 0) ∧ At l c _ := ⟨_, At.sg b10, At.next b10⟩
      obtain ⟨c12, q14, b12, pz⟩ : ∃ c, offS l (c11, 0) = (z, c, 0) ∧ At l c [] ∧ (peek l c11 = [43] ∨ peek l c11 = [45]) := ⟨_, off_ok (r := []) z1 z2 (by rw [List.append_nil]; exact b11)⟩
      have l3 : c3 < l.length := by
        unfold dtx at b3
        split at b3
        · exact At.lt b3
        · exact At.lt b3
      obtain ⟨e15, l12⟩ := off_run (y := y) (m := m) (d := d) (s := rest) (z := 0) (q := k) hl (At.lt b11) q14
      have hend : c12 = l.length := Nat.le_antisymm l12 b12.end
      obtain ⟨st, e16⟩ := end_ok hend e30 hv hnum hk (.inr rfl)
      have f43 : F43 ((T, ()), ()) = some ((), (((), 0, 0, 0, 0, 0, 0, 0, -1, ()), l, ())) := by simp only [F43, f54, Option.bind_some]
      have pz' : (decide (peek l c11 = [43]) || decide (peek l c11 = [45])) = true := by
        rw [Bool.or_eq_true, decide_eq_true_eq, decide_eq_true_eq]; exact pz
      have e1' : F45 (((), ()), ((l, 0, 0, 0, 0, 0, 0, 0, -1, ()), ())) = some ([x1], ((l, 0, 0, 0, 0, 0, 0, 0, -1, ()), ())) := e1
      have e3' : F46 (((), weeks, ()), ((l, 0, 0, 0, 0, 0, 0, 0, -1, ()), ())) = some (k, ((l, (c1 : Int), 0, 0, 0, 0, 0, 0, -1, ()), ())) := e3
      simp only [F23, f43, Option.bind_some, e1', F44_eq, xd, Bool.not_false, cond_true, f32, e3', sign_ok hl (At.lt b1) q4, sign_ok hl (At.lt b2) q5, n12_run hl l3 q6, sign_ok hl (At.lt b4) q7, f33, word_ok months_nms hl hlc (At.lt b5) q8, hm1, sign_ok hl (At.lt b6) q9, num4_ok hl (At.lt b7) q10,
        sign_ok hl (At.lt b8) q11, hms_run hl (At.lt b9) q12, sign_ok hl (At.lt b10) q13, F45_eq, pz', e15, e16]
    have r24 : F24 ((dsh d ++ (45 :: ([v1, v2, v3] ++ (45 :: (ytx y ++ (32 :: (clk rest ++ (32 :: zon z))))))), ()), ()) = some (((s, z, ()), 0, 0, ()), ()) := by
      have ld : (dsh d).length ≤ 2 := by unfold dsh; split <;> simp
      generalize hT : (dsh d ++ (45 :: ([v1, v2, v3] ++ (45 :: (ytx y ++ (32 :: (clk rest ++ (32 :: zon z))))))) : List UInt8) = T
      have hTl : T.length ≤ 100 := by
        rw [← hT]
        simp only [List.length_append, List.length_cons, List.length_nil, ytx, clk, zon]
        omega
      have hTs : ∀ b ∈ T, b.toNat < 128 := by
        intro b hb
        rw [← hT] at hb
        simp only [List.cons_append, List.nil_append, List.mem_cons, List.mem_append (s := dsh d)] at hb
        rcases hb with h | rfl | rfl | rfl | rfl | rfl | h
        · exact small_dsh a5 hd31 b h
        · decide
        · exact vs1
        · exact vs2
        · exact vs3
        · decide
        · exact srest b h
      have h0 : At (sing T) 0 T := sing_at T
      have hl : (sing T).length ≤ 1000000 := by rw [sing, List.length_map]; omega
      have hlc := sing_each T
      have f54 := letters_ascii (s := T) (by omega) hTs
      generalize sing T = l at h0 hl hlc f54
      rw [← hT] at h0
      have f43 : F43 ((T, ()), ()) = some ((), (((), 0, 0, 0, 0, 0, 0, 0, -1, ()), l, ())) := by simp only [F43, f54, Option.bind_some]
      have fin : ∀ c0 : Nat, At l c0 (45 :: ([v1, v2, v3] ++ (45 :: (ytx y ++ (32 :: (clk rest ++ (32 :: zon z))))))) → ∃ (c1 c2 c3 c4 c5 c6 c7 c8 : Nat) (st : _), sg [45] l (c0, 0) = (c1, 0) ∧ c0 < l.length ∧ ww months l (c1, 0) = (m - 1, c2, 0) ∧ c1 < l.length ∧ sg [45] l (c2, 0) = (c3, 0) ∧ c2 < l.length ∧
          nn 10000 4 l (c3, 0) = (y, c4, 0) ∧ c3 < l.length ∧ sg [32] l (c4, 0) = (c5, 0) ∧ c4 < l.length ∧ hmsS false l (c5, 0) = (rest, c6, 0) ∧ c5 < l.length ∧ sg [32] l (c6, 0) = (c7, 0) ∧ c6 < l.length ∧
          F51 (((), ()), ((l, (c7 : Int), 0, y, m, d, rest, 0, -1, ()), ())) = some ((), ((l, (c8 : Int), 0, y, m, d, rest, z, -1, ()), ())) ∧ F52 (((), ()), ((l, (c8 : Int), 0, y, m, d, rest, z, -1, ()), ())) = some (((s, z, ()), 0, 0, ()), st) := by
        intro c0 b4
        obtain ⟨c5, q7, b5⟩ : ∃ c, sg [45] l (c0, 0) = (c, 0) ∧ At l c _ := ⟨_, At.sg b4, At.next b4⟩
        obtain ⟨c6, q8, b6⟩ : ∃ c, ww months l (c5, 0) = (m - 1, c, 0) ∧ At l c _ := ⟨_, hmm l c5 _ b5, At.next (At.next (At.next b5))⟩
        obtain ⟨c7, q9, b7⟩ : ∃ c, sg [45] l (c6, 0) = (c, 0) ∧ At l c _ := ⟨_, At.sg b6, At.next b6⟩
        obtain ⟨c8, q10, b8⟩ : ∃ c, nn 10000 4 l (c7, 0) = (y, c, 0) ∧ At l c _ := ⟨_, ytx_ok a1 a2 b7⟩
        obtain ⟨c9, q11, b9⟩ : ∃ c, sg [32] l (c8, 0) = (c, 0) ∧ At l c _ := ⟨_, At.sg b8, At.next b8⟩
        obtain ⟨c10, q12, b10⟩ : ∃ c, hmsS false l (c9, 0) = (rest, c, 0) ∧ At l c _ := ⟨_, hms_ok false (by omega) (by omega) b9⟩
        obtain ⟨c11, q13, b11⟩ : ∃ c, sg [32] l (c10, 0) = (c, 0) ∧ At l c _ := ⟨_, At.sg b10, At.next b10⟩
        obtain ⟨c12, q14, b12, pz⟩ : ∃ c, offS l (c11, 0) = (z, c, 0) ∧ At l c [] ∧ (peek l c11 = [43] ∨ peek l c11 = [45]) := ⟨_, off_ok (r := []) z1 z2 (by rw [List.append_nil]; exact b11)⟩
        obtain ⟨e15, l12⟩ := off_run (y := y) (m := m) (d := d) (s := rest) (z := 0) (q := -1) hl (At.lt b11) q14
        have hend : c12 = l.length := Nat.le_antisymm l12 b12.end
        obtain ⟨st, e16⟩ := end_ok hend e30 hv hnum hk (.inl rfl)
        exact ⟨c5, c6, c7, c8, c9, c10, c11, c12, st, q7, At.lt b4, q8, At.lt b5, q9, At.lt b6, q10, At.lt b7, q11, At.lt b8, q12, At.lt b9, q13, At.lt b10, e15, e16⟩
      by_cases hd : d < 10
      · have b0 : At l 0 (32 :: dgt d :: (45 :: ([v1, v2, v3] ++ (45 :: (ytx y ++ (32 :: (clk rest ++ (32 :: zon z)))))))) := by
          rw [dsh, if_pos hd] at h0; exact h0
        have p0 := At.peek b0
        have e1 := F45_eq l 0 0 0 0 0 0 0 (-1)
        rw [p0] at e1
        have e2 := sign_ok (y := 0) (m := 0) (d := 0) (s := 0) (z := 0) (q := -1) hl b0.lt (At.sg b0)
        obtain ⟨c1, hc1, b1⟩ : ∃ c, c = 0 + 1 ∧ At l c _ := ⟨_, rfl, At.next b0⟩
        rw [← hc1] at e2
        obtain ⟨c2, q2, b2⟩ : ∃ c, nn 10 1 l (c1, 0) = (d, c, 0) ∧ At l c _ := ⟨_, At.nn1 b1 (by omega) (by omega) hd, At.next b1⟩
        have e1' : F45 (((), ()), ((l, 0, 0, 0, 0, 0, 0, 0, -1, ()), ())) = some ([32], ((l, 0, 0, 0, 0, 0, 0, 0, -1, ()), ())) := e1
        have e2' : F47 (((), [32], ()), ((l, 0, 0, 0, 0, 0, 0, 0, -1, ()), ())) = some ((), ((l, (c1 : Int), 0, 0, 0, 0, 0, 0, -1, ()), ())) := e2
        obtain ⟨d1, d2, d3, d4, d5, d6, d7, d8, st, r1, r2, r3, r4, r5, r6, r7, r8, r9, r10, r11, r12, r13, r14, r15, r16⟩ := fin c2 b2
        simp only [F24, f43, Option.bind_some, e1', decide_true, cond_true, e2', num1_ok hl (At.lt b1) q2, sign_ok hl r2 r1, f33, word_ok months_nms hl hlc r4 r3, hm1, sign_ok hl r6 r5, num4_ok hl r8 r7, sign_ok hl r10 r9, hms_run hl r12 r11, sign_ok hl r14 r13, r15, r16]
      · have b0 : At l 0 (dgt (d / 10) :: dgt (d % 10) :: (45 :: ([v1, v2, v3] ++ (45 :: (ytx y ++ (32 :: (clk rest ++ (32 :: zon z)))))))) := by
          rw [dsh, if_neg hd] at h0; exact h0
        have p0 := At.peek b0
        have e1 := F45_eq l 0 0 0 0 0 0 0 (-1)
        rw [p0] at e1
        have q0 := At.nn2 (bb := 100) b0 (by omega) (by omega) (by omega) (by omega) (by omega)
        rw [show d / 10 * 10 + d % 10 = d by omega] at q0
        have e2 := num2_ok (y := 0) (m := 0) (d := 0) (s := 0) (z := 0) (q := -1) hl b0.lt q0
        obtain ⟨c2, hc2, b2⟩ : ∃ c, c = 0 + 2 ∧ At l c _ := ⟨_, rfl, At.next (At.next b0)⟩
        rw [← hc2] at e2
        have e1' : F45 (((), ()), ((l, 0, 0, 0, 0, 0, 0, 0, -1, ()), ())) = some ([dgt (d / 10)], ((l, 0, 0, 0, 0, 0, 0, 0, -1, ()), ())) := e1
        have e2' : F49 (((), 2, 100, ()), ((l, 0, 0, 0, 0, 0, 0, 0, -1, ()), ())) = some (d, ((l, (c2 : Int), 0, 0, 0, 0, 0, 0, -1, ()), ())) := e2
        obtain ⟨d1, d2, d3, d4, d5, d6, d7, d8, st, r1, r2, r3, r4, r5, r6, r7, r8, r9, r10, r11, r12, r13, r14, r15, r16⟩ := fin c2 b2
        have c0 : decide (([dgt (d / 10)] : List UInt8) = [32]) = false := by
          have hn : d / 10 = 1 ∨ d / 10 = 2 ∨ d / 10 = 3 := by omega
          rcases hn with h | h | h <;> rw [h] <;> decide
        simp only [F24, f43, Option.bind_some, e1', c0, cond_false, e2', sign_ok hl r2 r1, f33, word_ok months_nms hl hlc r4 r3, hm1, sign_ok hl r6 r5, num4_ok hl r8 r7, sign_ok hl r10 r9, hms_run hl r12 r11, sign_ok hl r14 r13, r15, r16]
    simp only [F7, t1, t2, r23, r24, live12, Option.bind_some, decide_true, Bool.not_true, cond_false, Bool.and_self]
  · have e17 : F17 (((s, z, ()), ()), ()) = some (([], 2, ()), ()) := by simp only [F17, e30, Option.bind_some, Bool.not_false, cond_true]
    have e19 : F19 (((s, z, ()), ()), ()) = some (([], 2, ()), ()) := by simp only [F19, e30, Option.bind_some, Bool.not_false, cond_true]
    have c0 : decide ((2 : Int) = 0) = false := by decide
    simp only [F7, e17, e19, c0, live12, Option.bind_some, decide_true, Bool.not_false, cond_true, Bool.and_self]

end Go.Dt
