/- The readers of moments and days, run. -/
import Derived.Test.YtbaocindligcmaaDoorQq3
namespace Go.Dt
open Go Go.Ev
set_option maxRecDepth 100000

variable {l : Ls} {a : Nat}

theorem wd_bound {names : Ls} : ∀ (f : Nat) {k : Nat} {got : List UInt8} {a : Nat} {w : Int}, 0 ≤ (wd names l f k got a w).1 ∧ (wd names l f k got a w).1 ≤ names.length
  | 0, _, _, _, _ => by simp [wd]
  | f + 1, k, got, a, w => by
    simp only [wd]
    split
    · next i hi =>
      unfold hit at hi
      have := (List.findIdx?_eq_some_iff_getElem.1 hi).1
      simp only
      omega
    · split
      · simp
      · exact wd_bound f

theorem ww_bound {names : Ls} {p : Nat × Int} : 0 ≤ (ww names l p).1 ∧ (ww names l p).1 ≤ names.length := wd_bound 5

/-- A moment's reader. -/
structure Got where
  p : Nat × Int
  y : Int
  m : Int
  d : Int
  s : Int
  z : Int
  k : Int

def weekP (l : Ls) : Int × Nat × Int := if isdig (peek l 0) = true then (-1, 0, 0) else ((ww weeks l (0, 0)).1, sg [32] l (sg [44] l (ww weeks l (0, 0)).2))

def zoneP (l : Ls) (p : Nat × Int) : Int × Nat × Int := if peek l p.1 = [43] ∨ peek l p.1 = [45] then offS l p else (0, (ww zn l p).2)

def restP (l : Ls) (sep : List UInt8) (k d : Int) (p : Nat × Int) (may : Bool) (Z : Nat × Int → Int × Nat × Int) : Got :=
  let mo := ww months l (sg sep l p)
  let ye := nn 10000 4 l (sg sep l mo.2)
  let h := hmsS may l (sg [32] l ye.2)
  let z := Z (sg [32] l h.2)
  ⟨z.2, ye.1, 1 + mo.1, d, h.1, z.1, k⟩

def parseP (l : Ls) : Got := restP l [32] (weekP l).1 (n12S l (weekP l).2).1 (n12S l (weekP l).2).2 true (zoneP l)

def firstP (l : Ls) : Int × Nat × Int := if peek l 0 = [32] then nn 10 1 l (sg [32] l (0, 0)) else nn 100 2 l (0, 0)

def shortP (l : Ls) : Got := restP l [45] (-1) (firstP l).1 (firstP l).2 false (offS l)

def dayP (l : Ls) : Got :=
  let d := n12S l (0, 0)
  let mo := ww months l (sg [45] l d.2)
  let ye := nn 10000 4 l (sg [45] l mo.2)
  ⟨ye.2, ye.1, 1 + mo.1, d.1, 0, 0, 0⟩

structure Lt (s : List UInt8) (l : Ls) : Prop where
  let_ : F39 ((s, ()), ()) = some ((), (l, ()))
  ref : F23 ((s, ()), ()) = some ((), (l, ()))
  good : Good l
  len : l.length ≤ 2000000

theorem lt_of {s : List UInt8} (hs : s.length ≤ 1100000) : ∃ l, Lt s l :=
  ⟨lets s.length s, F39_eq hs, F23_eq hs, lets_good _ _, by have := lets_len s.length s; omega⟩

theorem w64_1 {k : Int} (h : 0 ≤ k) (h2 : k ≤ 1000) : w64 (1 + k) = 1 + k := w64_id (by omega) (by omega)

theorem F11_eq' {s : List UInt8} {l : Ls} (h : Lt s l) : F11 ((s, ()), ()) = some ((), (((), 0, 0, 0, 0, 0, 0, 0, -1, ()), l, ())) := by simp only [F11, h.let_, Option.bind_some]

theorem F8_run {s : List UInt8} {l : Ls} (h : Lt s l) : F8 ((s, ()), ()) =
    cond (decide ((dayP l).p.2 = 0) && decide (((dayP l).p.1 : Int) < ((l.length : Nat) : Int))) (some (((0, 0, 0, ()), ((dayP l).p.1 : Int), 4, ()), ()))
      (cond (!decide ((dayP l).p.2 = 0)) (some (((0, 0, 0, ()), ((dayP l).p.1 : Int), (dayP l).p.2, ()), ()))
        (Option.bind (F35 ((((dayP l).y, (dayP l).m, (dayP l).d, ()), ()), ())) fun r8 => cond (!r8.1) (some (((0, 0, 0, ()), 0, 2, ()), ())) (some ((((dayP l).y, (dayP l).m, (dayP l).d, ()), 0, 0, ()), ())))) := by
  have hl := h.len
  have hlc := h.good.le
  have h0 : (0 : Nat) ≤ l.length := Nat.zero_le _
  have f18 : F18 ((), ()) = some ((), (months, ())) := rfl
  have l1 := n12_le (l := l) (p := (0, (0 : Int))) h0
  have l2 := sg_le (c := [45]) l1
  have l3 := ww_le (names := months) l2
  have l4 := sg_le (c := [45]) l3
  have hb := ww_bound (names := months) (l := l) (p := sg [45] l (n12S l (0, 0)).2)
  have wm := w64_1 hb.1 (Int.le_trans hb.2 (by decide))
  have e1 := n12_eq (y := 0) (m := 0) (d := 0) (s := 0) (z := 0) (q := -1) hl (p := (0, (0 : Int))) h0
  have e1' : F17 (((), ()), ((l, 0, 0, 0, 0, 0, 0, 0, -1, ()), ())) = some ((n12S l (0, 0)).1, ((l, ((n12S l (0, 0)).2.1 : Int), (n12S l (0, 0)).2.2, 0, 0, 0, 0, 0, -1, ()), ())) := e1
  simp only [F8, F11_eq' h, Option.bind_some, e1', sign_eq hl l1, f18, word_eq months_nms hl hlc l2, wm, sign_eq hl l3, num4_eq hl l4]
  rfl

theorem F6_run {s : List UInt8} {l : Ls} (h : Lt s l) : F6 ((s, ()), ()) =
    Option.bind (F22 (((), ()), ((l, ((shortP l).p.1 : Int), (shortP l).p.2, (shortP l).y, (shortP l).m, (shortP l).d, (shortP l).s, (shortP l).z, (shortP l).k, ()), ()))) fun r => some (((r.1.1.1, r.1.1.2.1, ()), r.1.2.1, r.1.2.2.1, ()), ()) := by
  have hl := h.len
  have hlc := h.good.le
  have h0 : (0 : Nat) ≤ l.length := Nat.zero_le _
  have f18 : F18 ((), ()) = some ((), (months, ())) := rfl
  have e0 := F13_eq l 0 0 0 0 0 0 0 (-1)
  have e0' : F13 (((), ()), ((l, 0, 0, 0, 0, 0, 0, 0, -1, ()), ())) = some (peek l 0, ((l, 0, 0, 0, 0, 0, 0, 0, -1, ()), ())) := e0
  have fin : ∀ (d : Int) (p : Nat × Int), p.1 ≤ l.length → (shortP l) = restP l [45] (-1) d p false (offS l) →
      (Option.bind (F16 (((), ([45] : List UInt8), ()), ((l, (p.1 : Int), p.2, 0, 0, d, 0, 0, -1, ()), ()))) fun r7 => (Option.bind (F18 ((), ())) fun r8 => (Option.bind (F14 (((), r8.2.1, ()), ((r7.2.1.1, r7.2.1.2.1, r7.2.1.2.2.1, r7.2.1.2.2.2.1, r7.2.1.2.2.2.2.1, r7.2.1.2.2.2.2.2.1, r7.2.1.2.2.2.2.2.2.1, r7.2.1.2.2.2.2.2.2.2.1, r7.2.1.2.2.2.2.2.2.2.2.1, ()), ()))) fun r9 =>
        (Option.bind (F16 (((), ([45] : List UInt8), ()), ((r9.2.1.1, r9.2.1.2.1, r9.2.1.2.2.1, r9.2.1.2.2.2.1, (w64 (1 + r9.1)), r9.2.1.2.2.2.2.2.1, r9.2.1.2.2.2.2.2.2.1, r9.2.1.2.2.2.2.2.2.2.1, r9.2.1.2.2.2.2.2.2.2.2.1, ()), ()))) fun r10 => (Option.bind (F19 (((), 4, 10000, ()), ((r10.2.1.1, r10.2.1.2.1, r10.2.1.2.2.1, r10.2.1.2.2.2.1, r10.2.1.2.2.2.2.1, r10.2.1.2.2.2.2.2.1, r10.2.1.2.2.2.2.2.2.1, r10.2.1.2.2.2.2.2.2.2.1, r10.2.1.2.2.2.2.2.2.2.2.1, ()), ()))) fun r11 =>
        (Option.bind (F16 (((), ([32] : List UInt8), ()), ((r11.2.1.1, r11.2.1.2.1, r11.2.1.2.2.1, r11.1, r11.2.1.2.2.2.2.1, r11.2.1.2.2.2.2.2.1, r11.2.1.2.2.2.2.2.2.1, r11.2.1.2.2.2.2.2.2.2.1, r11.2.1.2.2.2.2.2.2.2.2.1, ()), ()))) fun r12 => (Option.bind (F20 (((), false, ()), ((r12.2.1.1, r12.2.1.2.1, r12.2.1.2.2.1, r12.2.1.2.2.2.1, r12.2.1.2.2.2.2.1, r12.2.1.2.2.2.2.2.1, r12.2.1.2.2.2.2.2.2.1, r12.2.1.2.2.2.2.2.2.2.1, r12.2.1.2.2.2.2.2.2.2.2.1, ()), ()))) fun r13 =>
        (Option.bind (F16 (((), ([32] : List UInt8), ()), ((r13.2.1.1, r13.2.1.2.1, r13.2.1.2.2.1, r13.2.1.2.2.2.1, r13.2.1.2.2.2.2.1, r13.2.1.2.2.2.2.2.1, r13.2.1.2.2.2.2.2.2.1, r13.2.1.2.2.2.2.2.2.2.1, r13.2.1.2.2.2.2.2.2.2.2.1, ()), ()))) fun r14 => (Option.bind (F21 (((), ()), ((r14.2.1.1, r14.2.1.2.1, r14.2.1.2.2.1, r14.2.1.2.2.2.1, r14.2.1.2.2.2.2.1, r14.2.1.2.2.2.2.2.1, r14.2.1.2.2.2.2.2.2.1, r14.2.1.2.2.2.2.2.2.2.1, r14.2.1.2.2.2.2.2.2.2.2.1, ()), ()))) fun r15 =>
        (Option.bind (F22 (((), ()), ((r15.2.1.1, r15.2.1.2.1, r15.2.1.2.2.1, r15.2.1.2.2.2.1, r15.2.1.2.2.2.2.1, r15.2.1.2.2.2.2.2.1, r15.2.1.2.2.2.2.2.2.1, r15.2.1.2.2.2.2.2.2.2.1, r15.2.1.2.2.2.2.2.2.2.2.1, ()), ()))) fun r16 => (some (((r16.1.1.1, r16.1.1.2.1, ()), r16.1.2.1, r16.1.2.2.1, ()), ()))))))))))) : Option (((Int × Int × Unit) × Int × Int × Unit) × Unit)) =
      Option.bind (F22 (((), ()), ((l, ((shortP l).p.1 : Int), (shortP l).p.2, (shortP l).y, (shortP l).m, (shortP l).d, (shortP l).s, (shortP l).z, (shortP l).k, ()), ()))) fun r => some (((r.1.1.1, r.1.1.2.1, ()), r.1.2.1, r.1.2.2.1, ()), ()) := by
    intro d p hp hs
    have l2 := sg_le (c := [45]) hp
    have l3 := ww_le (names := months) l2
    have l4 := sg_le (c := [45]) l3
    have l5 := nn_le (b := 10000) (n := 4) l4
    have l6 := sg_le (c := [32]) l5
    have l7 := hms_le (may := false) l6
    have l8 := sg_le (c := [32]) l7
    have hb := ww_bound (names := months) (l := l) (p := sg [45] l p)
    have wm := w64_1 hb.1 (Int.le_trans hb.2 (by decide))
    rw [hs]
    simp only [sign_eq hl hp, Option.bind_some, f18, word_eq months_nms hl hlc l2, wm, sign_eq hl l3, num4_eq hl l4, sign_eq hl l5, hms_eq hl l6, sign_eq hl l7, off_eq hl l8]
    rfl
  by_cases hc : peek l 0 = [32]
  · have c0 := decide_eq_true hc
    have e1 := sign_eq (y := 0) (m := 0) (d := 0) (s := 0) (z := 0) (q := -1) hl (p := (0, (0 : Int))) h0 [32]
    have e1' : F16 (((), ([32] : List UInt8), ()), ((l, 0, 0, 0, 0, 0, 0, 0, -1, ()), ())) = some ((), ((l, ((sg [32] l (0, 0)).1 : Int), (sg [32] l (0, 0)).2, 0, 0, 0, 0, 0, -1, ()), ())) := e1
    have l1 := sg_le (c := [32]) (l := l) (p := (0, (0 : Int))) h0
    have hfp : firstP l = nn 10 1 l (sg [32] l (0, 0)) := by unfold firstP; rw [if_pos hc]
    have := fin (firstP l).1 (firstP l).2 (by rw [hfp]; exact nn_le l1) rfl
    rw [hfp] at this
    rw [← this]
    simp only [F6, F11_eq' h, Option.bind_some, e0', c0, cond_true, e1', num1_eq hl l1]
  · have c0 := decide_eq_false hc
    have e1 := num2_eq (y := 0) (m := 0) (d := 0) (s := 0) (z := 0) (q := -1) hl (p := (0, (0 : Int))) h0 100
    have e1' : F19 (((), 2, 100, ()), ((l, 0, 0, 0, 0, 0, 0, 0, -1, ()), ())) = some ((nn 100 2 l (0, 0)).1, ((l, ((nn 100 2 l (0, 0)).2.1 : Int), (nn 100 2 l (0, 0)).2.2, 0, 0, 0, 0, 0, -1, ()), ())) := e1
    have hfp : firstP l = nn 100 2 l (0, 0) := by unfold firstP; rw [if_neg hc]
    have := fin (firstP l).1 (firstP l).2 (by rw [hfp]; exact nn_le h0) rfl
    rw [hfp] at this
    rw [← this]
    simp only [F6, F11_eq' h, Option.bind_some, e0', c0, cond_false, e1']

end Go.Dt

namespace Go.Dt
open Go Go.Ev
set_option maxRecDepth 100000

variable {l : Ls} {a : Nat}

theorem weekP_le (l : Ls) : (weekP l).2.1 ≤ l.length := by
  unfold weekP
  split
  · exact Nat.zero_le _
  · exact sg_le (sg_le (ww_le (Nat.zero_le _)))

theorem F4_run {s : List UInt8} {l : Ls} (h : Lt s l) : F4 ((s, ()), ()) =
    Option.bind (F22 (((), ()), ((l, ((parseP l).p.1 : Int), (parseP l).p.2, (parseP l).y, (parseP l).m, (parseP l).d, (parseP l).s, (parseP l).z, (parseP l).k, ()), ()))) fun r => some (((r.1.1.1, r.1.1.2.1, ()), r.1.2.1, r.1.2.2.1, ()), ()) := by
  have hl := h.len
  have hlc := h.good.le
  have h0 : (0 : Nat) ≤ l.length := Nat.zero_le _
  have f18 : F18 ((), ()) = some ((), (months, ())) := rfl
  have f15 : F15 ((), ()) = some ((), (weeks, ())) := rfl
  have ezn : ([([71, 77, 84] : List UInt8), ([85, 84] : List UInt8)] : Ls) = zn := rfl
  have e0 := F13_eq l 0 0 0 0 0 0 0 (-1)
  have e0' : F13 (((), ()), ((l, 0, 0, 0, 0, 0, 0, 0, -1, ()), ())) = some (peek l 0, ((l, 0, 0, 0, 0, 0, 0, 0, -1, ()), ())) := e0
  -- the weekday
  obtain ⟨k, p, hkp⟩ : ∃ k p, weekP l = (k, p) := ⟨_, _, rfl⟩
  have hp : p.1 ≤ l.length := by have := weekP_le l; rw [hkp] at this; exact this
  have l1 := n12_le hp
  have l2 := sg_le (c := [32]) l1
  have l3 := ww_le (names := months) l2
  have l4 := sg_le (c := [32]) l3
  have l5 := nn_le (b := 10000) (n := 4) l4
  have l6 := sg_le (c := [32]) l5
  have l7 := hms_le (may := true) l6
  have l8 := sg_le (c := [32]) l7
  have hb := ww_bound (names := months) (l := l) (p := sg [32] l (n12S l p).2)
  have wm := w64_1 hb.1 (Int.le_trans hb.2 (by decide))
  have hP : parseP l = restP l [32] k (n12S l p).1 (n12S l p).2 true (zoneP l) := by unfold parseP; rw [hkp]
  rw [hP]
  -- both ways to the day
  have day : (Option.bind (F13 (((), ()), ((l, 0, 0, 0, 0, 0, 0, 0, -1, ()), ()))) fun r2 => (Option.bind (F12 ((r2.1, ()), ())) fun r3 => (cond (!r3.1) (Option.bind (F15 ((), ())) fun r4 => (Option.bind (F14 (((), r4.2.1, ()), ((r2.2.1.1, r2.2.1.2.1, r2.2.1.2.2.1, r2.2.1.2.2.2.1, r2.2.1.2.2.2.2.1, r2.2.1.2.2.2.2.2.1, r2.2.1.2.2.2.2.2.2.1, r2.2.1.2.2.2.2.2.2.2.1, r2.2.1.2.2.2.2.2.2.2.2.1, ()), ()))) fun r5 =>
      (Option.bind (F16 (((), ([44] : List UInt8), ()), ((r5.2.1.1, r5.2.1.2.1, r5.2.1.2.2.1, r5.2.1.2.2.2.1, r5.2.1.2.2.2.2.1, r5.2.1.2.2.2.2.2.1, r5.2.1.2.2.2.2.2.2.1, r5.2.1.2.2.2.2.2.2.2.1, r5.1, ()), ()))) fun r6 => (Option.bind (F16 (((), ([32] : List UInt8), ()), ((r6.2.1.1, r6.2.1.2.1, r6.2.1.2.2.1, r6.2.1.2.2.2.1, r6.2.1.2.2.2.2.1, r6.2.1.2.2.2.2.2.1, r6.2.1.2.2.2.2.2.2.1, r6.2.1.2.2.2.2.2.2.2.1, r6.2.1.2.2.2.2.2.2.2.2.1, ()), ()))) fun r7 =>
      (some (((), (), ()), (((0 : Int), (0 : Int), ()), (r7.2.1.1, r7.2.1.2.1, r7.2.1.2.2.1, r7.2.1.2.2.2.1, r7.2.1.2.2.2.2.1, r7.2.1.2.2.2.2.2.1, r7.2.1.2.2.2.2.2.2.1, r7.2.1.2.2.2.2.2.2.2.1, r7.2.1.2.2.2.2.2.2.2.2.1, ()), ()))))))) (some (((), (), ()), (((0 : Int), (0 : Int), ()), (r2.2.1.1, r2.2.1.2.1, r2.2.1.2.2.1, r2.2.1.2.2.2.1, r2.2.1.2.2.2.2.1, r2.2.1.2.2.2.2.2.1, r2.2.1.2.2.2.2.2.2.1, r2.2.1.2.2.2.2.2.2.2.1, r2.2.1.2.2.2.2.2.2.2.2.1, ()), ())))))
        : Option ((Unit × Unit × Unit) × (Int × Int × Unit) × (Ls × Int × Int × Int × Int × Int × Int × Int × Int × Unit) × Unit)) =
      some (((), (), ()), (((0 : Int), (0 : Int), ()), (l, (p.1 : Int), p.2, 0, 0, 0, 0, 0, k, ()), ())) := by
    unfold weekP at hkp
    by_cases hd : isdig (peek l 0) = true
    · rw [if_pos hd] at hkp
      cases hkp
      simp only [e0', F12_eq, hd, Option.bind_some, Bool.not_true, cond_false]
      rfl
    · rw [if_neg hd] at hkp
      have hd' : isdig (peek l 0) = false := by simpa using hd
      have g1 := ww_le (names := weeks) (l := l) (p := (0, (0 : Int))) h0
      have g2 := sg_le (c := [44]) g1
      have e1 := word_eq (y := 0) (m := 0) (d := 0) (s := 0) (z := 0) (q := -1) weeks_nms hl hlc (p := (0, (0 : Int))) h0
      have e1' : F14 (((), weeks, ()), ((l, 0, 0, 0, 0, 0, 0, 0, -1, ()), ())) = some ((ww weeks l (0, 0)).1, ((l, ((ww weeks l (0, 0)).2.1 : Int), (ww weeks l (0, 0)).2.2, 0, 0, 0, 0, 0, -1, ()), ())) := e1
      have hk1 : (ww weeks l (0, 0)).1 = k := congrArg Prod.fst hkp
      have hk2 : sg [32] l (sg [44] l (ww weeks l (0, 0)).2) = p := congrArg Prod.snd hkp
      simp only [e0', F12_eq, hd', Option.bind_some, Bool.not_false, cond_true, f15, e1', sign_eq hl g1, sign_eq hl g2, hk1, hk2]
  by_cases hz : peek l (sg [32] l (hmsS true l (sg [32] l (nn 10000 4 l (sg [32] l (ww months l (sg [32] l (n12S l p).2)).2)).2)).2).1 = [43] ∨ peek l (sg [32] l (hmsS true l (sg [32] l (nn 10000 4 l (sg [32] l (ww months l (sg [32] l (n12S l p).2)).2)).2)).2).1 = [45]
  · have cz : (decide (peek l (sg [32] l (hmsS true l (sg [32] l (nn 10000 4 l (sg [32] l (ww months l (sg [32] l (n12S l p).2)).2)).2)).2).1 = [43]) || decide (peek l (sg [32] l (hmsS true l (sg [32] l (nn 10000 4 l (sg [32] l (ww months l (sg [32] l (n12S l p).2)).2)).2)).2).1 = [45])) = true := by
      rw [Bool.or_eq_true, decide_eq_true_eq, decide_eq_true_eq]; exact hz
    have hzp : zoneP l (sg [32] l (hmsS true l (sg [32] l (nn 10000 4 l (sg [32] l (ww months l (sg [32] l (n12S l p).2)).2)).2)).2) = offS l (sg [32] l (hmsS true l (sg [32] l (nn 10000 4 l (sg [32] l (ww months l (sg [32] l (n12S l p).2)).2)).2)).2) := by unfold zoneP; rw [if_pos hz]
    simp only [F4, F11_eq' h, Option.bind_some]
    rw [day]
    simp only [Option.bind_some, n12_eq hl hp, sign_eq hl l1, f18, word_eq months_nms hl hlc l2, wm, sign_eq hl l3, num4_eq hl l4, sign_eq hl l5, hms_eq hl l6, sign_eq hl l7, F13_eq, cz, cond_true, off_eq hl l8, restP, hzp]
  · have cz : (decide (peek l (sg [32] l (hmsS true l (sg [32] l (nn 10000 4 l (sg [32] l (ww months l (sg [32] l (n12S l p).2)).2)).2)).2).1 = [43]) || decide (peek l (sg [32] l (hmsS true l (sg [32] l (nn 10000 4 l (sg [32] l (ww months l (sg [32] l (n12S l p).2)).2)).2)).2).1 = [45])) = false := by
      rw [Bool.or_eq_false_iff, decide_eq_false_iff_not, decide_eq_false_iff_not]; exact ⟨fun h => hz (.inl h), fun h => hz (.inr h)⟩
    have hzp : zoneP l (sg [32] l (hmsS true l (sg [32] l (nn 10000 4 l (sg [32] l (ww months l (sg [32] l (n12S l p).2)).2)).2)).2) = (0, (ww zn l (sg [32] l (hmsS true l (sg [32] l (nn 10000 4 l (sg [32] l (ww months l (sg [32] l (n12S l p).2)).2)).2)).2)).2) := by unfold zoneP; rw [if_neg hz]
    simp only [F4, F11_eq' h, Option.bind_some]
    rw [day]
    simp only [Option.bind_some, n12_eq hl hp, sign_eq hl l1, f18, word_eq months_nms hl hlc l2, wm, sign_eq hl l3, num4_eq hl l4, sign_eq hl l5, hms_eq hl l6, sign_eq hl l7, F13_eq, cz, cond_false, ezn, word_eq zn_nms hl hlc l8, restP, hzp]

end Go.Dt

namespace Go.Dt
open Go Go.Ev
set_option maxRecDepth 100000

variable {l : Ls} {a : Nat}

theorem mt_split {p q : List UInt8} (h : (mt l (p ++ q) a).2 = true) : (mt l p a).2 = true ∧ (mt l q (a + p.length)).2 = true := by
  rw [mt_append] at h
  cases hp : (mt l p a).2 with
  | true => rw [hp, if_pos rfl] at h; exact ⟨rfl, h⟩
  | false => rw [hp, if_neg (by simp), hp] at h; cases h

theorem mt_one {b : UInt8} (h : (mt l [b] a).2 = true) : a < l.length ∧ fitS l a b = true := by
  simp only [mt] at h
  split at h
  · next hc => exact hc
  · cases h

theorem Sim.comp' {X Y : Nat × Int → Nat × Int} {q r : List UInt8} (h1 : Sim l X q a) (hs : ∀ p, p.2 ≠ 0 → Y p = p) (h2 : (mt l q a).2 = true → Sim l Y r (a + q.length)) : Sim l (fun p => Y (X p)) (q ++ r) a where
  go := fun ha => by
    show Y (X (a, 0)) = _
    rw [h1.go ha, mt_append]
    cases hq : (mt l q a).2 with
    | true =>
      have hle := mt_len (l := l) (p := q) ha
      rw [mt_true hq] at hle
      rw [if_pos rfl, st_true hq, mt_true hq]
      exact (h2 hq).go hle
    | false =>
      rw [if_neg (by simp)]
      exact hs _ (st_false hq)
  stay := fun p hp => by
    show Y (X p) = p
    rw [h1.stay p hp, hs p hp]

theorem Sim.run {X : Nat × Int → Nat × Int} {q : List UInt8} (h : Sim l X q a) (ha : a ≤ l.length) (hm : (mt l q a).2 = true) : X (a, 0) = (a + q.length, 0) ∧ a + q.length ≤ l.length := by
  have hle := mt_len (l := l) (p := q) ha
  rw [mt_true hm] at hle
  exact ⟨by rw [h.go ha, st_true hm, mt_true hm], hle⟩

/-- What a stage says of its value. -/
def sv (may : Bool) (l : Ls) (a : Nat) : Int := 3600 * dv l 2 0 a + 60 * dv l 2 0 (a + 3) + if may = true ∧ peek l (a + 5) ≠ [58] then 0 else dv l 2 0 (a + 6)

def rq (sep : UInt8) (may : Bool) (l : Ls) (a : Nat) (Zq : List UInt8) : List UInt8 := [sep] ++ ([77, 77, 77] ++ ([sep] ++ ([57, 57, 57, 57] ++ ([32] ++ (hq may l (a + 10) ++ ([32] ++ Zq))))))

theorem months_sim (hg : Good l) (ha : a = 0 ∨ alpha (peek l (a - 1)) = false) : Sim l (fun p => (ww months l p).2) [77, 77, 77] a ∧ (a ≤ l.length → (mt l [77, 77, 77] a).2 = true → ∃ k : Nat, hit months 3 (peek l a ++ peek l (a + 1) ++ peek l (a + 2)) = some k ∧ (ww months l (a, 0)).1 = k) :=
  names_sim hg months_3 fit77 ha

theorem rest_sim (hg : Good l) {sep : UInt8} (hsep : own sep) (hal : alpha [sep] = false) {may : Bool} {Z : Nat × Int → Int × Nat × Int} {Zq : List UInt8} {zv : Int} (hZ : Sim l (fun p => (Z p).2) Zq (a + 11 + (hq may l (a + 10)).length))
    (hzv : a + 11 + (hq may l (a + 10)).length ≤ l.length → (mt l Zq (a + 11 + (hq may l (a + 10)).length)).2 = true → (Z (a + 11 + (hq may l (a + 10)).length, 0)).1 = zv) (k d : Int) :
    Sim l (fun p => (restP l [sep] k d p may Z).p) (rq sep may l a Zq) a ∧ (a ≤ l.length → (mt l (rq sep may l a Zq) a).2 = true → (restP l [sep] k d (a, 0) may Z).y = dv l 4 0 (a + 5) ∧
      (∃ km : Nat, hit months 3 (peek l (a + 1) ++ peek l (a + 2) ++ peek l (a + 3)) = some km ∧ (restP l [sep] k d (a, 0) may Z).m = 1 + (km : Int)) ∧ (restP l [sep] k d (a, 0) may Z).s = sv may l (a + 10) ∧ (restP l [sep] k d (a, 0) may Z).z = zv) := by
  have s1 := sim_sg (a := a) hg hsep
  have hd1 : (mt l [sep] a).2 = true → alpha (peek l (a + 1 - 1)) = false := fun h => by
    have := (mt_one h).2
    rw [fit_own hsep] at this
    rw [Nat.add_sub_cancel, of_decide_eq_true this]; exact hal
  have s2 := fun h => months_sim (a := a + 1) hg (.inr (hd1 h))
  have s3 := sim_sg (a := a + 4) hg hsep
  have s4 := num10000 (a := a + 5) hg
  have s5 := sim_sg (a := a + 9) hg (b := 32) (by decide)
  have s6 := hms_sim (a := a + 10) hg may
  have s7 := sim_sg (a := a + 10 + (hq may l (a + 10)).length) hg (b := 32) (by decide)
  have e1 : a + 10 + (hq may l (a + 10)).length + [(32 : UInt8)].length = a + 11 + (hq may l (a + 10)).length := by simp; omega
  have hZ' : Sim l (fun p => (Z p).2) Zq (a + 10 + (hq may l (a + 10)).length + [(32 : UInt8)].length) := by rw [e1]; exact hZ
  have c7 := s7.comp' hZ'.stay fun _ => hZ'
  have c6 := s6.1.comp' c7.stay fun _ => c7
  have c5 := s5.comp' c6.stay fun _ => c6
  have c4 := s4.sim.comp' c5.stay fun _ => c5
  have c3 := s3.comp' c4.stay fun _ => c4
  have hst : ∀ p : Nat × Int, p.2 ≠ 0 → (ww months l p).2 = p := fun p hp => ww_stay (by decide) p hp
  have c1 := s1.comp' (Y := fun p => (Z (sg [32] l (hmsS may l (sg [32] l (nn 10000 4 l (sg [sep] l (ww months l p).2)).2)).2)).2) (fun p hp => by
    have h1 := hst p hp
    show (fun p => (Z (sg [32] l (hmsS may l (sg [32] l (nn 10000 4 l (sg [sep] l p)).2)).2)).2) (ww months l p).2 = p
    rw [h1]; exact c3.stay p hp) fun h => (s2 h).1.comp' (Y := fun p => (Z (sg [32] l (hmsS may l (sg [32] l (nn 10000 4 l (sg [sep] l p)).2)).2)).2) c3.stay fun _ => c3
  refine ⟨c1, fun ha hm => ?_⟩
  obtain ⟨m1, hm⟩ := mt_split hm
  obtain ⟨m2, hm⟩ := mt_split hm
  obtain ⟨m3, hm⟩ := mt_split hm
  obtain ⟨m4, hm⟩ := mt_split hm
  obtain ⟨m5, hm⟩ := mt_split hm
  obtain ⟨m6, hm⟩ := mt_split hm
  obtain ⟨m7, m8⟩ := mt_split hm
  obtain ⟨r1, l1⟩ := s1.run ha m1
  obtain ⟨r2, l2⟩ := (s2 m1).1.run l1 m2
  obtain ⟨r3, l3⟩ := s3.run l2 m3
  obtain ⟨r4, l4⟩ := s4.sim.run l3 m4
  obtain ⟨r5, l5⟩ := s5.run l4 m5
  obtain ⟨r6, l6⟩ := s6.1.run l5 m6
  obtain ⟨r7, l7⟩ := s7.run l6 m7
  obtain ⟨km, k1, k2⟩ := (s2 m1).2 l1 m2
  have r1' : sg [sep] l (a, 0) = (a + 1, 0) := r1
  have r2' : (ww months l (a + 1, 0)).2 = (a + 4, 0) := r2
  have r3' : sg [sep] l (a + 4, 0) = (a + 5, 0) := r3
  have r4' : (nn 10000 4 l (a + 5, 0)).2 = (a + 9, 0) := r4
  have r5' : sg [32] l (a + 9, 0) = (a + 10, 0) := r5
  have r6' : (hmsS may l (a + 10, 0)).2 = (a + 10 + (hq may l (a + 10)).length, 0) := r6
  have r7' : sg [32] l (a + 10 + (hq may l (a + 10)).length, 0) = (a + 11 + (hq may l (a + 10)).length, 0) := by
    have r7'' : sg [32] l (a + 10 + (hq may l (a + 10)).length, 0) = (a + 10 + (hq may l (a + 10)).length + [(32 : UInt8)].length, 0) := r7
    rw [r7'', e1]
  have m8' : (mt l Zq (a + 11 + (hq may l (a + 10)).length)).2 = true := by rw [← e1]; exact m8
  have l7' : a + 11 + (hq may l (a + 10)).length ≤ l.length := by rw [← e1]; exact l7
  have v4 := s4.val l3 m4
  have v6 := s6.2 l5 m6
  have v8 := hzv l7' m8'
  simp only [restP, r1', r2', r3', r4', r5', r6', r7', v4, v6, v8, k2]
  exact ⟨trivial, ⟨km, k1, rfl⟩, rfl, trivial⟩

/-- The pattern of a day. -/
def dayQ (l : Ls) : List UInt8 := dq l 0 ++ ([45] ++ ([77, 77, 77] ++ ([45] ++ [57, 57, 57, 57])))

theorem day_sim (hg : Good l) : (dayP l).p = st l (mt l (dayQ l) 0) ∧ ((mt l (dayQ l) 0).2 = true → (dayP l).d = dv l (dq l 0).length 0 0 ∧
    (∃ km : Nat, hit months 3 (peek l ((dq l 0).length + 1) ++ peek l ((dq l 0).length + 2) ++ peek l ((dq l 0).length + 3)) = some km ∧ (dayP l).m = 1 + (km : Int)) ∧ (dayP l).y = dv l 4 0 ((dq l 0).length + 5)) := by
  have s0 := n12_sim (a := 0) hg
  generalize hn : (dq l 0).length = n
  have s1 := sim_sg (a := 0 + (dq l 0).length) hg (b := 45) (by decide)
  have hd1 : (mt l [45] (0 + (dq l 0).length)).2 = true → alpha (peek l (0 + (dq l 0).length + [(45 : UInt8)].length - 1)) = false := fun h => by
    have := (mt_one h).2
    rw [fit_own (by decide)] at this
    rw [show 0 + (dq l 0).length + [(45 : UInt8)].length - 1 = 0 + (dq l 0).length by simp, of_decide_eq_true this]; decide
  have s2 := fun h => months_sim (a := 0 + (dq l 0).length + [(45 : UInt8)].length) hg (.inr (hd1 h))
  have s3 := sim_sg (a := 0 + (dq l 0).length + [(45 : UInt8)].length + [(77 : UInt8), 77, 77].length) hg (b := 45) (by decide)
  have s4 := num10000 (a := 0 + (dq l 0).length + [(45 : UInt8)].length + [(77 : UInt8), 77, 77].length + [(45 : UInt8)].length) hg
  have c3 := s3.comp' s4.sim.stay fun _ => s4.sim
  have hst : ∀ p : Nat × Int, p.2 ≠ 0 → (ww months l p).2 = p := fun p hp => ww_stay (by decide) p hp
  have c1 := s1.comp' (Y := fun p => (nn 10000 4 l (sg [45] l (ww months l p).2)).2) (fun p hp => by
    have h1 := hst p hp
    show (fun p => (nn 10000 4 l (sg [45] l p)).2) (ww months l p).2 = p
    rw [h1]; exact c3.stay p hp) fun h => (s2 h).1.comp' (Y := fun p => (nn 10000 4 l (sg [45] l p)).2) c3.stay fun _ => c3
  have c0 := s0.1.comp' c1.stay fun _ => c1
  have h0 : 0 ≤ l.length := Nat.zero_le _
  refine ⟨c0.go h0, fun hm => ?_⟩
  obtain ⟨m0, hm⟩ := mt_split hm
  obtain ⟨m1, hm⟩ := mt_split hm
  obtain ⟨m2, hm⟩ := mt_split hm
  obtain ⟨m3, m4⟩ := mt_split hm
  obtain ⟨r0, l0⟩ := s0.1.run h0 m0
  obtain ⟨r1, l1⟩ := s1.run l0 m1
  obtain ⟨r2, l2⟩ := (s2 m1).1.run l1 m2
  obtain ⟨r3, l3⟩ := s3.run l2 m3
  obtain ⟨km, k1, k2⟩ := (s2 m1).2 l1 m2
  have v0 := s0.2 h0 m0
  have v4 := s4.val l3 m4
  have r0' : (n12S l (0, 0)).2 = (0 + (dq l 0).length, 0) := r0
  have r2' : (ww months l (0 + (dq l 0).length + [(45 : UInt8)].length, 0)).2 = (0 + (dq l 0).length + [(45 : UInt8)].length + [(77 : UInt8), 77, 77].length, 0) := r2
  simp only [dayP, r0', r1, r2', r3, v0, v4, k2]
  subst hn
  simp only [Nat.zero_add, List.length_cons, List.length_nil] at k1 ⊢
  exact ⟨trivial, ⟨km, k1, rfl⟩, trivial⟩

/-- The pattern of a short moment. -/
def fq (l : Ls) : List UInt8 := if peek l 0 = [32] then [32, 57] else [57, 57]

theorem fq_len (l : Ls) : (fq l).length = 2 := by unfold fq; split <;> rfl

def fv (l : Ls) : Int := if peek l 0 = [32] then dv l 1 0 1 else dv l 2 0 0

theorem first_sim (hg : Good l) : (firstP l).2 = st l (mt l (fq l) 0) ∧ ((mt l (fq l) 0).2 = true → (firstP l).1 = fv l) := by
  have h0 : 0 ≤ l.length := Nat.zero_le _
  unfold firstP fq fv
  by_cases hc : peek l 0 = [32]
  · rw [if_pos hc, if_pos hc, if_pos hc]
    have s1 := sim_sg (a := 0) hg (b := 32) (by decide)
    have n1 := num10 (a := 0 + [(32 : UInt8)].length) hg
    have c := s1.comp' n1.sim.stay fun _ => n1.sim
    refine ⟨c.go h0, fun hm => ?_⟩
    obtain ⟨m1, m2⟩ := mt_split (p := [32]) (q := [57]) hm
    obtain ⟨r1, l1⟩ := s1.run h0 m1
    rw [r1]
    exact n1.val l1 m2
  · rw [if_neg hc, if_neg hc, if_neg hc]
    have n1 := num100 (a := 0) hg
    exact ⟨n1.sim.go h0, n1.val h0⟩

end Go.Dt
