/- A letter's moment is read as the reference reads it. -/
import Derived.Test.YtbaocindligcmaaDoorQq6
namespace Go.Dt
open Go Go.Ev
set_option maxRecDepth 100000

variable {l : Ls} {a : Nat}

theorem wn0 : w64 0 = 0 := by decide
theorem wn1 : w64 1 = 1 := by decide
theorem wn2 : w64 2 = 2 := by decide
theorem wn3 : w64 3 = 3 := by decide
theorem wn4 : w64 4 = 4 := by decide
theorem wn5 : w64 5 = 5 := by decide
theorem wn6 : w64 6 = 6 := by decide
theorem wn7 : w64 7 = 7 := by decide
theorem wn8 : w64 8 = 8 := by decide
theorem wn9 : w64 9 = 9 := by decide
theorem wn10 : w64 10 = 10 := by decide
theorem wn11 : w64 11 = 11 := by decide
theorem wn12 : w64 12 = 12 := by decide
theorem wn13 : w64 13 = 13 := by decide
theorem wn14 : w64 14 = 14 := by decide
theorem wn15 : w64 15 = 15 := by decide
theorem wn16 : w64 16 = 16 := by decide
theorem wn17 : w64 17 = 17 := by decide
theorem wn18 : w64 18 = 18 := by decide
theorem wn19 : w64 19 = 19 := by decide
theorem wn20 : w64 20 = 20 := by decide
theorem wn21 : w64 21 = 21 := by decide
theorem wn22 : w64 22 = 22 := by decide
theorem wn23 : w64 23 = 23 := by decide
theorem wn24 : w64 24 = 24 := by decide
theorem wn25 : w64 25 = 25 := by decide
theorem wn26 : w64 26 = 26 := by decide
theorem wn27 : w64 27 = 27 := by decide
theorem wn28 : w64 28 = 28 := by decide
theorem wn29 : w64 29 = 29 := by decide
theorem wn30 : w64 30 = 30 := by decide
theorem wn31 : w64 31 = 31 := by decide

theorem peek_lt (h : peek l a ≠ []) : a < l.length := by
  rcases Nat.lt_or_ge a l.length with h1 | h1
  · exact h1
  · exact absurd (by unfold peek; rw [List.getD_eq_getElem?_getD, List.getElem?_eq_none h1]; rfl) h

theorem sv_w0 {h m : Int} (h1 : 0 ≤ h ∧ h ≤ 99) (h2 : 0 ≤ m ∧ m ≤ 99) : w64 (w64 (3600 * h) + w64 (60 * m)) = 3600 * h + 60 * m := by
  rw [w64_id (n := 3600 * h) (by omega) (by omega), w64_id (n := 60 * m) (by omega) (by omega), w64_id (n := 3600 * h + 60 * m) (by omega) (by omega)]

theorem zone_eq (hl : l.length ≤ 2000000) (h : (mt l (zq l a) a).2 = true) : F32 ((l, (a : Int), ()), ()) = some (zv l a, ()) := by
  unfold zv
  unfold zq at h
  by_cases hc : peek l a = [43] ∨ peek l a = [45]
  · rw [if_pos hc] at h ⊢
    exact F32_off hl h
  · rw [if_neg hc] at h ⊢
    have : a < l.length := by
      by_cases hu : low (peek l a) = [117]
      · rw [if_pos hu] at h
        exact (mt_one (mt_split (p := [85]) (q := [84]) h).1).1
      · rw [if_neg hu] at h
        exact (mt_one (mt_split (p := [71]) (q := [109, 84]) h).1).1
    exact F32_no this hc

theorem full_00 {s : List UInt8} {l : Ls} (h : Lt s l) {v z : Nat} {far : Nat} (I : Ix l 0 0 v z) (hf : full l (pq l) = true) (hb : bst l PA 0 0 = (((16 * 0 + 8 * 0 + 4 * v + z : Nat) : Int), far)) (S : Says l 0 1) {t u e n b wk : Int}
    (e31 : F31 ((((parseP l).y, (parseP l).m, (parseP l).d, ()), (parseP l).s, (parseP l).z, ()), ()) = some (((t, u, ()), 0, e, ()), ())) (_e33 : F33 ((((parseP l).y, (parseP l).m, (parseP l).d, ()), ()), ()) = some ((n, b, ()), ())) (_e34 : F34 ((n, ()), ()) = some (wk, ())) :
    F5 ((s, ()), ()) = some ((if e = 0 ∧ 0 ≤ (parseP l).k ∧ wk ≠ (parseP l).k then ((0, 0, ()), 0, 2, ()) else ((t, u, ()), 0, e, ())), ()) := by
  have hl := h.len
  have hg := h.good
  obtain ⟨hm, _, hql⟩ := full_true hf
  have hpq : pq l = Ww 0 ++ (([57] ++ Dd 0) ++ rq 32 true l 1 (zq l (1 + 11 + (hq true l (1 + 10)).length))) := by
    have e0 := I.pwq
    have e1 := I.pdq
    unfold pq
    simp only [e0]
    rw [e1]; rfl
  rw [hpq] at hm hql
  obtain ⟨m0, hm⟩ := mt_split hm
  obtain ⟨m1, m2⟩ := mt_split hm
  have m1' : (mt l (List.replicate 1 57) 0).2 = true := m1
  have m2' : (mt l (rq 32 true l 1 (zq l (1 + 11 + (hq true l (1 + 10)).length))) 1).2 = true := m2
  have R := rest_facts (a := 1) hg hl m2'
  have RL := R.len
  have hd := dq_digs (l := l) (a := 0) (n := 1) (by omega) (by rw [show dq l 0 = [57] ++ Dd 0 from I.pdq]; rfl) (by rw [show dq l 0 = [57] ++ Dd 0 from I.pdq]; exact m1)
  obtain ⟨km, hk, hvm⟩ := S.m
  have Rm := R.month km hk
  have f30 : F30 ((), ()) = some ((), (months, ())) := rfl
  have f28 : F28 ((), ()) = some ((), (weeks, ())) := rfl
  have e25 := F25_eq' hg hl (all := PA) (by decide) PA_ok
  have iv := I.s2
  have iz := I.z4
  have hK : 16 * 0 + 8 * 0 + 4 * v + z < 32 := by omega
  have hgt : PA.getD (16 * 0 + 8 * 0 + 4 * v + z) [] = Pp 0 0 v z := by
    have hg := PA_get hK
    rw [show (16 * 0 + 8 * 0 + 4 * v + z) / 16 = 0 by omega, show (16 * 0 + 8 * 0 + 4 * v + z) / 8 % 2 = 0 by omega, show (16 * 0 + 8 * 0 + 4 * v + z) / 4 % 2 = v by omega, show (16 * 0 + 8 * 0 + 4 * v + z) % 4 = z by omega] at hg
    rw [List.getD_eq_getElem?_getD, hg]; rfl
  generalize hKd : 16 * 0 + 8 * 0 + 4 * v + z = K at hb hK hgt
  have cneg : decide (((K : Nat) : Int) < 0) = false := decide_eq_false (by omega)
  have c0 : decide ((0 : Int) ≤ ((K : Nat) : Int)) = true := decide_eq_true (by omega)
  have c1 : decide (((K : Nat) : Int) < ((PA.length : Nat) : Int)) = true := decide_eq_true (by rw [PA_len]; omega)
  have hP : Pp 0 0 v z = 57 :: (Mm ++ (Ss v ++ ([32] ++ zx z :: zr z))) := rfl
  have hPl : 1 < (Pp 0 0 v z).length := by rw [hP]; unfold Mm; simp
  have c2 : decide ((0 : Int) < (((Pp 0 0 v z).length : Nat) : Int)) = true := decide_eq_true (by omega)
  have c3 : decide ((1 : Int) < (((Pp 0 0 v z).length : Nat) : Int)) = true := decide_eq_true (by omega)
  have c3' : decide ((0 : Int) ≤ (1 : Int)) = true := by decide
  have g0 : decide ((Pp 0 0 v z).getD 0 0 = 87) = false := by rw [hP]; rfl
  have g1 : decide ((Pp 0 0 v z).getD 1 0 = 57) = false := by rw [hP]; rfl
  have tn : Int.toNat (1 : Int) = 1 := rfl
  have hk' : (parseP l).k = -1 := (S.k.resolve_right (fun hx => absurd (I.pw.1 rfl) (by rw [hx.1]; simp))).2
  have e29d : F29 ((l, 0, 1, ()), ()) = some (dv l 1 0 0, ()) := F29_eq' (a := 0) (n := 1) hl (by omega) (by omega) hd
  have e27 : F27 ((l, 2, months, ()), ()) = some ((km : Int), ()) := Rm.1
  have ey : F29 ((l, 6, 4, ()), ()) = some (dv l 4 0 6, ()) := R.year.1
  have eh : F29 ((l, 11, 2, ()), ()) = some (dv l 2 0 11, ()) := R.hour.1
  have emi : F29 ((l, 14, 2, ()), ()) = some (dv l 2 0 14, ()) := R.min.1
  have hsg : List.getD l 16 [] = peek l 16 := rfl
  have tn2 : Int.toNat (16 : Int) = 16 := rfl
  have c4' : decide ((0 : Int) ≤ (16 : Int)) = true := by decide
  rw [S.y, hvm, S.d, S.s, S.z] at e31
  have hq5 : 5 ≤ (hq true l (1 + 10)).length := by unfold hq; split <;> simp
  have c4 : decide ((16 : Int) < ((l.length : Nat) : Int)) = true := decide_eq_true (by omega)
  rw [hk']
  by_cases hs : peek l 16 = [58]
  · have hqe : hq true l (1 + 10) = [50, 51, 58, 53, 57, 58, 53, 57] := by unfold hq; rw [if_neg (fun hx => hx.2 hs)]
    have Rs := R.sec (fun hx => hx.2 hs)
    have Rz := R.zone
    rw [hqe] at Rz e31
    have cs : decide (peek l 16 = [58]) = true := decide_eq_true hs
    have es : F29 ((l, 17, 2, ()), ()) = some (dv l 2 0 17, ()) := Rs.1
    have e32 : F32 ((l, 20, ()), ()) = some (zv l 20, ()) := zone_eq (a := 20) hl Rz
    have hsv : sv true l (1 + 10) = w64 (w64 (w64 (3600 * dv l 2 0 11) + w64 (60 * dv l 2 0 14)) + dv l 2 0 17) := by
      unfold sv; rw [if_neg (fun hx => hx.2 hs)]; exact (sv_w R.hour.2 R.min.2 Rs.2).symm
    rw [hsv] at e31
    have hz' : zv l (1 + 11 + ([50, 51, 58, 53, 57, 58, 53, 57] : List UInt8).length) = zv l 20 := rfl
    rw [hz'] at e31
    have ck : decide ((0 : Int) ≤ (-1 : Int)) = false := by decide
    rw [if_neg (fun hx => absurd hx.2.1 (by decide))]
    simp only [F5, h.ref, Option.bind_some, F24_eq, e25, hb, cneg, cond_false, cond_true, c0, c1, Bool.and_self, Int.toNat_natCast, hgt, c2, g0, Int.reduceAdd, wn1, c3, c3', tn, g1, e29d, f30, wn2, wn6, wn11, wn14, wn16, wn17, wn19, wn20, e27, ey, eh, emi, c4, c4', tn2, hsg, Rm.2, cs, es, e32, e31, agr_self, ck, Bool.and_false]
  · have hqe : hq true l (1 + 10) = [50, 51, 58, 53, 57] := by unfold hq; rw [if_pos ⟨rfl, hs⟩]
    have Rz := R.zone
    rw [hqe] at Rz e31
    have cs : decide (peek l 16 = [58]) = false := decide_eq_false hs
    have e32 : F32 ((l, 17, ()), ()) = some (zv l 17, ()) := zone_eq (a := 17) hl Rz
    have hsv : sv true l (1 + 10) = w64 (w64 (3600 * dv l 2 0 11) + w64 (60 * dv l 2 0 14)) := by
      unfold sv; rw [if_pos ⟨rfl, hs⟩, Int.add_zero]; exact (sv_w0 R.hour.2 R.min.2).symm
    rw [hsv] at e31
    have hz' : zv l (1 + 11 + ([50, 51, 58, 53, 57] : List UInt8).length) = zv l 17 := rfl
    rw [hz'] at e31
    have ck : decide ((0 : Int) ≤ (-1 : Int)) = false := by decide
    rw [if_neg (fun hx => absurd hx.2.1 (by decide))]
    simp only [F5, h.ref, Option.bind_some, F24_eq, e25, hb, cneg, cond_false, cond_true, c0, c1, Bool.and_self, Int.toNat_natCast, hgt, c2, g0, Int.reduceAdd, wn1, c3, c3', tn, g1, e29d, f30, wn2, wn6, wn11, wn14, wn16, wn17, e27, ey, eh, emi, c4, c4', tn2, hsg, Rm.2, cs, e32, e31, agr_self, ck, Bool.and_false]

theorem full_01 {s : List UInt8} {l : Ls} (h : Lt s l) {v z : Nat} {far : Nat} (I : Ix l 0 1 v z) (hf : full l (pq l) = true) (hb : bst l PA 0 0 = (((16 * 0 + 8 * 1 + 4 * v + z : Nat) : Int), far)) (S : Says l 0 2) {t u e n b wk : Int}
    (e31 : F31 ((((parseP l).y, (parseP l).m, (parseP l).d, ()), (parseP l).s, (parseP l).z, ()), ()) = some (((t, u, ()), 0, e, ()), ())) (_e33 : F33 ((((parseP l).y, (parseP l).m, (parseP l).d, ()), ()), ()) = some ((n, b, ()), ())) (_e34 : F34 ((n, ()), ()) = some (wk, ())) :
    F5 ((s, ()), ()) = some ((if e = 0 ∧ 0 ≤ (parseP l).k ∧ wk ≠ (parseP l).k then ((0, 0, ()), 0, 2, ()) else ((t, u, ()), 0, e, ())), ()) := by
  have hl := h.len
  have hg := h.good
  obtain ⟨hm, _, hql⟩ := full_true hf
  have hpq : pq l = Ww 0 ++ (([57] ++ Dd 1) ++ rq 32 true l 2 (zq l (2 + 11 + (hq true l (2 + 10)).length))) := by
    have e0 := I.pwq
    have e1 := I.pdq
    unfold pq
    simp only [e0]
    rw [e1]; rfl
  rw [hpq] at hm hql
  obtain ⟨m0, hm⟩ := mt_split hm
  obtain ⟨m1, m2⟩ := mt_split hm
  have m1' : (mt l (List.replicate 2 57) 0).2 = true := m1
  have m2' : (mt l (rq 32 true l 2 (zq l (2 + 11 + (hq true l (2 + 10)).length))) 2).2 = true := m2
  have R := rest_facts (a := 2) hg hl m2'
  have RL := R.len
  have hd := dq_digs (l := l) (a := 0) (n := 2) (by omega) (by rw [show dq l 0 = [57] ++ Dd 1 from I.pdq]; rfl) (by rw [show dq l 0 = [57] ++ Dd 1 from I.pdq]; exact m1)
  obtain ⟨km, hk, hvm⟩ := S.m
  have Rm := R.month km hk
  have f30 : F30 ((), ()) = some ((), (months, ())) := rfl
  have f28 : F28 ((), ()) = some ((), (weeks, ())) := rfl
  have e25 := F25_eq' hg hl (all := PA) (by decide) PA_ok
  have iv := I.s2
  have iz := I.z4
  have hK : 16 * 0 + 8 * 1 + 4 * v + z < 32 := by omega
  have hgt : PA.getD (16 * 0 + 8 * 1 + 4 * v + z) [] = Pp 0 1 v z := by
    have hg := PA_get hK
    rw [show (16 * 0 + 8 * 1 + 4 * v + z) / 16 = 0 by omega, show (16 * 0 + 8 * 1 + 4 * v + z) / 8 % 2 = 1 by omega, show (16 * 0 + 8 * 1 + 4 * v + z) / 4 % 2 = v by omega, show (16 * 0 + 8 * 1 + 4 * v + z) % 4 = z by omega] at hg
    rw [List.getD_eq_getElem?_getD, hg]; rfl
  generalize hKd : 16 * 0 + 8 * 1 + 4 * v + z = K at hb hK hgt
  have cneg : decide (((K : Nat) : Int) < 0) = false := decide_eq_false (by omega)
  have c0 : decide ((0 : Int) ≤ ((K : Nat) : Int)) = true := decide_eq_true (by omega)
  have c1 : decide (((K : Nat) : Int) < ((PA.length : Nat) : Int)) = true := decide_eq_true (by rw [PA_len]; omega)
  have hP : Pp 0 1 v z = 57 :: 57 :: (Mm ++ (Ss v ++ ([32] ++ zx z :: zr z))) := rfl
  have hPl : 1 < (Pp 0 1 v z).length := by rw [hP]; unfold Mm; simp
  have c2 : decide ((0 : Int) < (((Pp 0 1 v z).length : Nat) : Int)) = true := decide_eq_true (by omega)
  have c3 : decide ((1 : Int) < (((Pp 0 1 v z).length : Nat) : Int)) = true := decide_eq_true (by omega)
  have c3' : decide ((0 : Int) ≤ (1 : Int)) = true := by decide
  have g0 : decide ((Pp 0 1 v z).getD 0 0 = 87) = false := by rw [hP]; rfl
  have g1 : decide ((Pp 0 1 v z).getD 1 0 = 57) = true := by rw [hP]; rfl
  have tn : Int.toNat (1 : Int) = 1 := rfl
  have hk' : (parseP l).k = -1 := (S.k.resolve_right (fun hx => absurd (I.pw.1 rfl) (by rw [hx.1]; simp))).2
  have e29d : F29 ((l, 0, 2, ()), ()) = some (dv l 2 0 0, ()) := F29_eq' (a := 0) (n := 2) hl (by omega) (by omega) hd
  have e27 : F27 ((l, 3, months, ()), ()) = some ((km : Int), ()) := Rm.1
  have ey : F29 ((l, 7, 4, ()), ()) = some (dv l 4 0 7, ()) := R.year.1
  have eh : F29 ((l, 12, 2, ()), ()) = some (dv l 2 0 12, ()) := R.hour.1
  have emi : F29 ((l, 15, 2, ()), ()) = some (dv l 2 0 15, ()) := R.min.1
  have hsg : List.getD l 17 [] = peek l 17 := rfl
  have tn2 : Int.toNat (17 : Int) = 17 := rfl
  have c4' : decide ((0 : Int) ≤ (17 : Int)) = true := by decide
  rw [S.y, hvm, S.d, S.s, S.z] at e31
  have hq5 : 5 ≤ (hq true l (2 + 10)).length := by unfold hq; split <;> simp
  have c4 : decide ((17 : Int) < ((l.length : Nat) : Int)) = true := decide_eq_true (by omega)
  rw [hk']
  by_cases hs : peek l 17 = [58]
  · have hqe : hq true l (2 + 10) = [50, 51, 58, 53, 57, 58, 53, 57] := by unfold hq; rw [if_neg (fun hx => hx.2 hs)]
    have Rs := R.sec (fun hx => hx.2 hs)
    have Rz := R.zone
    rw [hqe] at Rz e31
    have cs : decide (peek l 17 = [58]) = true := decide_eq_true hs
    have es : F29 ((l, 18, 2, ()), ()) = some (dv l 2 0 18, ()) := Rs.1
    have e32 : F32 ((l, 21, ()), ()) = some (zv l 21, ()) := zone_eq (a := 21) hl Rz
    have hsv : sv true l (2 + 10) = w64 (w64 (w64 (3600 * dv l 2 0 12) + w64 (60 * dv l 2 0 15)) + dv l 2 0 18) := by
      unfold sv; rw [if_neg (fun hx => hx.2 hs)]; exact (sv_w R.hour.2 R.min.2 Rs.2).symm
    rw [hsv] at e31
    have hz' : zv l (2 + 11 + ([50, 51, 58, 53, 57, 58, 53, 57] : List UInt8).length) = zv l 21 := rfl
    rw [hz'] at e31
    have ck : decide ((0 : Int) ≤ (-1 : Int)) = false := by decide
    rw [if_neg (fun hx => absurd hx.2.1 (by decide))]
    simp only [F5, h.ref, Option.bind_some, F24_eq, e25, hb, cneg, cond_false, cond_true, c0, c1, Bool.and_self, Int.toNat_natCast, hgt, c2, g0, Int.reduceAdd, wn1, c3, c3', tn, g1, e29d, f30, wn2, wn3, wn7, wn12, wn15, wn17, wn18, wn20, wn21, e27, ey, eh, emi, c4, c4', tn2, hsg, Rm.2, cs, es, e32, e31, agr_self, ck, Bool.and_false]
  · have hqe : hq true l (2 + 10) = [50, 51, 58, 53, 57] := by unfold hq; rw [if_pos ⟨rfl, hs⟩]
    have Rz := R.zone
    rw [hqe] at Rz e31
    have cs : decide (peek l 17 = [58]) = false := decide_eq_false hs
    have e32 : F32 ((l, 18, ()), ()) = some (zv l 18, ()) := zone_eq (a := 18) hl Rz
    have hsv : sv true l (2 + 10) = w64 (w64 (3600 * dv l 2 0 12) + w64 (60 * dv l 2 0 15)) := by
      unfold sv; rw [if_pos ⟨rfl, hs⟩, Int.add_zero]; exact (sv_w0 R.hour.2 R.min.2).symm
    rw [hsv] at e31
    have hz' : zv l (2 + 11 + ([50, 51, 58, 53, 57] : List UInt8).length) = zv l 18 := rfl
    rw [hz'] at e31
    have ck : decide ((0 : Int) ≤ (-1 : Int)) = false := by decide
    rw [if_neg (fun hx => absurd hx.2.1 (by decide))]
    simp only [F5, h.ref, Option.bind_some, F24_eq, e25, hb, cneg, cond_false, cond_true, c0, c1, Bool.and_self, Int.toNat_natCast, hgt, c2, g0, Int.reduceAdd, wn1, c3, c3', tn, g1, e29d, f30, wn2, wn3, wn7, wn12, wn15, wn17, wn18, e27, ey, eh, emi, c4, c4', tn2, hsg, Rm.2, cs, e32, e31, agr_self, ck, Bool.and_false]

theorem full_10 {s : List UInt8} {l : Ls} (h : Lt s l) {v z : Nat} {far : Nat} (I : Ix l 1 0 v z) (hf : full l (pq l) = true) (hb : bst l PA 0 0 = (((16 * 1 + 8 * 0 + 4 * v + z : Nat) : Int), far)) (S : Says l 5 1) {t u e n b wk : Int}
    (e31 : F31 ((((parseP l).y, (parseP l).m, (parseP l).d, ()), (parseP l).s, (parseP l).z, ()), ()) = some (((t, u, ()), 0, e, ()), ())) (e33 : F33 ((((parseP l).y, (parseP l).m, (parseP l).d, ()), ()), ()) = some ((n, b, ()), ())) (e34 : F34 ((n, ()), ()) = some (wk, ())) :
    F5 ((s, ()), ()) = some ((if e = 0 ∧ 0 ≤ (parseP l).k ∧ wk ≠ (parseP l).k then ((0, 0, ()), 0, 2, ()) else ((t, u, ()), 0, e, ())), ()) := by
  have hl := h.len
  have hg := h.good
  obtain ⟨hm, _, hql⟩ := full_true hf
  have hpq : pq l = Ww 1 ++ (([57] ++ Dd 0) ++ rq 32 true l 6 (zq l (6 + 11 + (hq true l (6 + 10)).length))) := by
    have e0 := I.pwq
    have e1 := I.pdq
    unfold pq
    simp only [e0]
    rw [e1]; rfl
  rw [hpq] at hm hql
  obtain ⟨m0, hm⟩ := mt_split hm
  obtain ⟨m1, m2⟩ := mt_split hm
  have m1' : (mt l (List.replicate 1 57) 5).2 = true := m1
  have m2' : (mt l (rq 32 true l 6 (zq l (6 + 11 + (hq true l (6 + 10)).length))) 6).2 = true := m2
  have R := rest_facts (a := 6) hg hl m2'
  have RL := R.len
  have hd := dq_digs (l := l) (a := 5) (n := 1) (by omega) (by rw [show dq l 5 = [57] ++ Dd 0 from I.pdq]; rfl) (by rw [show dq l 5 = [57] ++ Dd 0 from I.pdq]; exact m1)
  obtain ⟨km, hk, hvm⟩ := S.m
  have Rm := R.month km hk
  have f30 : F30 ((), ()) = some ((), (months, ())) := rfl
  have f28 : F28 ((), ()) = some ((), (weeks, ())) := rfl
  have e25 := F25_eq' hg hl (all := PA) (by decide) PA_ok
  have iv := I.s2
  have iz := I.z4
  have hK : 16 * 1 + 8 * 0 + 4 * v + z < 32 := by omega
  have hgt : PA.getD (16 * 1 + 8 * 0 + 4 * v + z) [] = Pp 1 0 v z := by
    have hg := PA_get hK
    rw [show (16 * 1 + 8 * 0 + 4 * v + z) / 16 = 1 by omega, show (16 * 1 + 8 * 0 + 4 * v + z) / 8 % 2 = 0 by omega, show (16 * 1 + 8 * 0 + 4 * v + z) / 4 % 2 = v by omega, show (16 * 1 + 8 * 0 + 4 * v + z) % 4 = z by omega] at hg
    rw [List.getD_eq_getElem?_getD, hg]; rfl
  generalize hKd : 16 * 1 + 8 * 0 + 4 * v + z = K at hb hK hgt
  have cneg : decide (((K : Nat) : Int) < 0) = false := decide_eq_false (by omega)
  have c0 : decide ((0 : Int) ≤ ((K : Nat) : Int)) = true := decide_eq_true (by omega)
  have c1 : decide (((K : Nat) : Int) < ((PA.length : Nat) : Int)) = true := decide_eq_true (by rw [PA_len]; omega)
  have hP : Pp 1 0 v z = 87 :: 87 :: 87 :: 44 :: 32 :: 57 :: (Mm ++ (Ss v ++ ([32] ++ zx z :: zr z))) := rfl
  have hPl : 6 < (Pp 1 0 v z).length := by rw [hP]; unfold Mm; simp
  have c2 : decide ((0 : Int) < (((Pp 1 0 v z).length : Nat) : Int)) = true := decide_eq_true (by omega)
  have c3 : decide ((6 : Int) < (((Pp 1 0 v z).length : Nat) : Int)) = true := decide_eq_true (by omega)
  have c3' : decide ((0 : Int) ≤ (6 : Int)) = true := by decide
  have g0 : decide ((Pp 1 0 v z).getD 0 0 = 87) = true := by rw [hP]; rfl
  have g1 : decide ((Pp 1 0 v z).getD 6 0 = 57) = false := by rw [hP]; rfl
  have tn : Int.toNat (6 : Int) = 6 := rfl
  obtain ⟨_, _, kw, hkw, hk'⟩ : isdig (peek l 0) = false ∧ 5 ≤ l.length ∧ ∃ k : Nat, hit weeks 3 (peek l 0 ++ peek l 1 ++ peek l 2) = some k ∧ (parseP l).k = k := S.k.resolve_left (fun hx => absurd (I.pw.2 hx.1) (by decide))
  have e27w : F27 ((l, 0, weeks, ()), ()) = some ((kw : Int), ()) := F27_eq' (a := 0) hg hl weeks_3 (by omega) hkw
  have e29d : F29 ((l, 5, 1, ()), ()) = some (dv l 1 0 5, ()) := F29_eq' (a := 5) (n := 1) hl (by omega) (by omega) hd
  have e27 : F27 ((l, 7, months, ()), ()) = some ((km : Int), ()) := Rm.1
  have ey : F29 ((l, 11, 4, ()), ()) = some (dv l 4 0 11, ()) := R.year.1
  have eh : F29 ((l, 16, 2, ()), ()) = some (dv l 2 0 16, ()) := R.hour.1
  have emi : F29 ((l, 19, 2, ()), ()) = some (dv l 2 0 19, ()) := R.min.1
  have hsg : List.getD l 21 [] = peek l 21 := rfl
  have tn2 : Int.toNat (21 : Int) = 21 := rfl
  have c4' : decide ((0 : Int) ≤ (21 : Int)) = true := by decide
  rw [S.y, hvm, S.d, S.s, S.z] at e31
  rw [S.y, hvm, S.d] at e33
  have hq5 : 5 ≤ (hq true l (6 + 10)).length := by unfold hq; split <;> simp
  have c4 : decide ((21 : Int) < ((l.length : Nat) : Int)) = true := decide_eq_true (by omega)
  rw [hk']
  by_cases hs : peek l 21 = [58]
  · have hqe : hq true l (6 + 10) = [50, 51, 58, 53, 57, 58, 53, 57] := by unfold hq; rw [if_neg (fun hx => hx.2 hs)]
    have Rs := R.sec (fun hx => hx.2 hs)
    have Rz := R.zone
    rw [hqe] at Rz e31
    have cs : decide (peek l 21 = [58]) = true := decide_eq_true hs
    have es : F29 ((l, 22, 2, ()), ()) = some (dv l 2 0 22, ()) := Rs.1
    have e32 : F32 ((l, 25, ()), ()) = some (zv l 25, ()) := zone_eq (a := 25) hl Rz
    have hsv : sv true l (6 + 10) = w64 (w64 (w64 (3600 * dv l 2 0 16) + w64 (60 * dv l 2 0 19)) + dv l 2 0 22) := by
      unfold sv; rw [if_neg (fun hx => hx.2 hs)]; exact (sv_w R.hour.2 R.min.2 Rs.2).symm
    rw [hsv] at e31
    have hz' : zv l (6 + 11 + ([50, 51, 58, 53, 57, 58, 53, 57] : List UInt8).length) = zv l 25 := rfl
    rw [hz'] at e31
    have ck : decide ((0 : Int) ≤ (kw : Int)) = true := decide_eq_true (by omega)
    by_cases he : e = 0
    · have ce := decide_eq_true he
      by_cases hw : wk = (kw : Int)
      · have cw := decide_eq_true hw
        rw [if_neg (fun hx => hx.2.2 hw)]
        simp only [F5, h.ref, Option.bind_some, F24_eq, e25, hb, cneg, cond_false, cond_true, c0, c1, Bool.and_self, Int.toNat_natCast, hgt, c2, g0, f28, e27w, Int.reduceAdd, wn6, c3, c3', tn, g1, e29d, f30, wn7, wn11, wn16, wn19, wn21, wn22, wn24, wn25, e27, ey, eh, emi, c4, c4', tn2, hsg, Rm.2, cs, es, e32, e31, agr_self, ce, ck, e33, e34, cw, Bool.not_true]
      · have cw := decide_eq_false hw
        rw [if_pos ⟨he, by omega, hw⟩]
        simp only [F5, h.ref, Option.bind_some, F24_eq, e25, hb, cneg, cond_false, cond_true, c0, c1, Bool.and_self, Int.toNat_natCast, hgt, c2, g0, f28, e27w, Int.reduceAdd, wn6, c3, c3', tn, g1, e29d, f30, wn7, wn11, wn16, wn19, wn21, wn22, wn24, wn25, e27, ey, eh, emi, c4, c4', tn2, hsg, Rm.2, cs, es, e32, e31, agr_self, ce, ck, e33, e34, cw, Bool.not_false]
    · have ce := decide_eq_false he
      rw [if_neg (fun hx => he hx.1)]
      simp only [F5, h.ref, Option.bind_some, F24_eq, e25, hb, cneg, cond_false, cond_true, c0, c1, Bool.and_self, Int.toNat_natCast, hgt, c2, g0, f28, e27w, Int.reduceAdd, wn6, c3, c3', tn, g1, e29d, f30, wn7, wn11, wn16, wn19, wn21, wn22, wn24, wn25, e27, ey, eh, emi, c4, c4', tn2, hsg, Rm.2, cs, es, e32, e31, agr_self, ce, ck, Bool.false_and]
  · have hqe : hq true l (6 + 10) = [50, 51, 58, 53, 57] := by unfold hq; rw [if_pos ⟨rfl, hs⟩]
    have Rz := R.zone
    rw [hqe] at Rz e31
    have cs : decide (peek l 21 = [58]) = false := decide_eq_false hs
    have e32 : F32 ((l, 22, ()), ()) = some (zv l 22, ()) := zone_eq (a := 22) hl Rz
    have hsv : sv true l (6 + 10) = w64 (w64 (3600 * dv l 2 0 16) + w64 (60 * dv l 2 0 19)) := by
      unfold sv; rw [if_pos ⟨rfl, hs⟩, Int.add_zero]; exact (sv_w0 R.hour.2 R.min.2).symm
    rw [hsv] at e31
    have hz' : zv l (6 + 11 + ([50, 51, 58, 53, 57] : List UInt8).length) = zv l 22 := rfl
    rw [hz'] at e31
    have ck : decide ((0 : Int) ≤ (kw : Int)) = true := decide_eq_true (by omega)
    by_cases he : e = 0
    · have ce := decide_eq_true he
      by_cases hw : wk = (kw : Int)
      · have cw := decide_eq_true hw
        rw [if_neg (fun hx => hx.2.2 hw)]
        simp only [F5, h.ref, Option.bind_some, F24_eq, e25, hb, cneg, cond_false, cond_true, c0, c1, Bool.and_self, Int.toNat_natCast, hgt, c2, g0, f28, e27w, Int.reduceAdd, wn6, c3, c3', tn, g1, e29d, f30, wn7, wn11, wn16, wn19, wn21, wn22, e27, ey, eh, emi, c4, c4', tn2, hsg, Rm.2, cs, e32, e31, agr_self, ce, ck, e33, e34, cw, Bool.not_true]
      · have cw := decide_eq_false hw
        rw [if_pos ⟨he, by omega, hw⟩]
        simp only [F5, h.ref, Option.bind_some, F24_eq, e25, hb, cneg, cond_false, cond_true, c0, c1, Bool.and_self, Int.toNat_natCast, hgt, c2, g0, f28, e27w, Int.reduceAdd, wn6, c3, c3', tn, g1, e29d, f30, wn7, wn11, wn16, wn19, wn21, wn22, e27, ey, eh, emi, c4, c4', tn2, hsg, Rm.2, cs, e32, e31, agr_self, ce, ck, e33, e34, cw, Bool.not_false]
    · have ce := decide_eq_false he
      rw [if_neg (fun hx => he hx.1)]
      simp only [F5, h.ref, Option.bind_some, F24_eq, e25, hb, cneg, cond_false, cond_true, c0, c1, Bool.and_self, Int.toNat_natCast, hgt, c2, g0, f28, e27w, Int.reduceAdd, wn6, c3, c3', tn, g1, e29d, f30, wn7, wn11, wn16, wn19, wn21, wn22, e27, ey, eh, emi, c4, c4', tn2, hsg, Rm.2, cs, e32, e31, agr_self, ce, ck, Bool.false_and]

theorem full_11 {s : List UInt8} {l : Ls} (h : Lt s l) {v z : Nat} {far : Nat} (I : Ix l 1 1 v z) (hf : full l (pq l) = true) (hb : bst l PA 0 0 = (((16 * 1 + 8 * 1 + 4 * v + z : Nat) : Int), far)) (S : Says l 5 2) {t u e n b wk : Int}
    (e31 : F31 ((((parseP l).y, (parseP l).m, (parseP l).d, ()), (parseP l).s, (parseP l).z, ()), ()) = some (((t, u, ()), 0, e, ()), ())) (e33 : F33 ((((parseP l).y, (parseP l).m, (parseP l).d, ()), ()), ()) = some ((n, b, ()), ())) (e34 : F34 ((n, ()), ()) = some (wk, ())) :
    F5 ((s, ()), ()) = some ((if e = 0 ∧ 0 ≤ (parseP l).k ∧ wk ≠ (parseP l).k then ((0, 0, ()), 0, 2, ()) else ((t, u, ()), 0, e, ())), ()) := by
  have hl := h.len
  have hg := h.good
  obtain ⟨hm, _, hql⟩ := full_true hf
  have hpq : pq l = Ww 1 ++ (([57] ++ Dd 1) ++ rq 32 true l 7 (zq l (7 + 11 + (hq true l (7 + 10)).length))) := by
    have e0 := I.pwq
    have e1 := I.pdq
    unfold pq
    simp only [e0]
    rw [e1]; rfl
  rw [hpq] at hm hql
  obtain ⟨m0, hm⟩ := mt_split hm
  obtain ⟨m1, m2⟩ := mt_split hm
  have m1' : (mt l (List.replicate 2 57) 5).2 = true := m1
  have m2' : (mt l (rq 32 true l 7 (zq l (7 + 11 + (hq true l (7 + 10)).length))) 7).2 = true := m2
  have R := rest_facts (a := 7) hg hl m2'
  have RL := R.len
  have hd := dq_digs (l := l) (a := 5) (n := 2) (by omega) (by rw [show dq l 5 = [57] ++ Dd 1 from I.pdq]; rfl) (by rw [show dq l 5 = [57] ++ Dd 1 from I.pdq]; exact m1)
  obtain ⟨km, hk, hvm⟩ := S.m
  have Rm := R.month km hk
  have f30 : F30 ((), ()) = some ((), (months, ())) := rfl
  have f28 : F28 ((), ()) = some ((), (weeks, ())) := rfl
  have e25 := F25_eq' hg hl (all := PA) (by decide) PA_ok
  have iv := I.s2
  have iz := I.z4
  have hK : 16 * 1 + 8 * 1 + 4 * v + z < 32 := by omega
  have hgt : PA.getD (16 * 1 + 8 * 1 + 4 * v + z) [] = Pp 1 1 v z := by
    have hg := PA_get hK
    rw [show (16 * 1 + 8 * 1 + 4 * v + z) / 16 = 1 by omega, show (16 * 1 + 8 * 1 + 4 * v + z) / 8 % 2 = 1 by omega, show (16 * 1 + 8 * 1 + 4 * v + z) / 4 % 2 = v by omega, show (16 * 1 + 8 * 1 + 4 * v + z) % 4 = z by omega] at hg
    rw [List.getD_eq_getElem?_getD, hg]; rfl
  generalize hKd : 16 * 1 + 8 * 1 + 4 * v + z = K at hb hK hgt
  have cneg : decide (((K : Nat) : Int) < 0) = false := decide_eq_false (by omega)
  have c0 : decide ((0 : Int) ≤ ((K : Nat) : Int)) = true := decide_eq_true (by omega)
  have c1 : decide (((K : Nat) : Int) < ((PA.length : Nat) : Int)) = true := decide_eq_true (by rw [PA_len]; omega)
  have hP : Pp 1 1 v z = 87 :: 87 :: 87 :: 44 :: 32 :: 57 :: 57 :: (Mm ++ (Ss v ++ ([32] ++ zx z :: zr z))) := rfl
  have hPl : 6 < (Pp 1 1 v z).length := by rw [hP]; unfold Mm; simp
  have c2 : decide ((0 : Int) < (((Pp 1 1 v z).length : Nat) : Int)) = true := decide_eq_true (by omega)
  have c3 : decide ((6 : Int) < (((Pp 1 1 v z).length : Nat) : Int)) = true := decide_eq_true (by omega)
  have c3' : decide ((0 : Int) ≤ (6 : Int)) = true := by decide
  have g0 : decide ((Pp 1 1 v z).getD 0 0 = 87) = true := by rw [hP]; rfl
  have g1 : decide ((Pp 1 1 v z).getD 6 0 = 57) = true := by rw [hP]; rfl
  have tn : Int.toNat (6 : Int) = 6 := rfl
  obtain ⟨_, _, kw, hkw, hk'⟩ : isdig (peek l 0) = false ∧ 5 ≤ l.length ∧ ∃ k : Nat, hit weeks 3 (peek l 0 ++ peek l 1 ++ peek l 2) = some k ∧ (parseP l).k = k := S.k.resolve_left (fun hx => absurd (I.pw.2 hx.1) (by decide))
  have e27w : F27 ((l, 0, weeks, ()), ()) = some ((kw : Int), ()) := F27_eq' (a := 0) hg hl weeks_3 (by omega) hkw
  have e29d : F29 ((l, 5, 2, ()), ()) = some (dv l 2 0 5, ()) := F29_eq' (a := 5) (n := 2) hl (by omega) (by omega) hd
  have e27 : F27 ((l, 8, months, ()), ()) = some ((km : Int), ()) := Rm.1
  have ey : F29 ((l, 12, 4, ()), ()) = some (dv l 4 0 12, ()) := R.year.1
  have eh : F29 ((l, 17, 2, ()), ()) = some (dv l 2 0 17, ()) := R.hour.1
  have emi : F29 ((l, 20, 2, ()), ()) = some (dv l 2 0 20, ()) := R.min.1
  have hsg : List.getD l 22 [] = peek l 22 := rfl
  have tn2 : Int.toNat (22 : Int) = 22 := rfl
  have c4' : decide ((0 : Int) ≤ (22 : Int)) = true := by decide
  rw [S.y, hvm, S.d, S.s, S.z] at e31
  rw [S.y, hvm, S.d] at e33
  have hq5 : 5 ≤ (hq true l (7 + 10)).length := by unfold hq; split <;> simp
  have c4 : decide ((22 : Int) < ((l.length : Nat) : Int)) = true := decide_eq_true (by omega)
  rw [hk']
  by_cases hs : peek l 22 = [58]
  · have hqe : hq true l (7 + 10) = [50, 51, 58, 53, 57, 58, 53, 57] := by unfold hq; rw [if_neg (fun hx => hx.2 hs)]
    have Rs := R.sec (fun hx => hx.2 hs)
    have Rz := R.zone
    rw [hqe] at Rz e31
    have cs : decide (peek l 22 = [58]) = true := decide_eq_true hs
    have es : F29 ((l, 23, 2, ()), ()) = some (dv l 2 0 23, ()) := Rs.1
    have e32 : F32 ((l, 26, ()), ()) = some (zv l 26, ()) := zone_eq (a := 26) hl Rz
    have hsv : sv true l (7 + 10) = w64 (w64 (w64 (3600 * dv l 2 0 17) + w64 (60 * dv l 2 0 20)) + dv l 2 0 23) := by
      unfold sv; rw [if_neg (fun hx => hx.2 hs)]; exact (sv_w R.hour.2 R.min.2 Rs.2).symm
    rw [hsv] at e31
    have hz' : zv l (7 + 11 + ([50, 51, 58, 53, 57, 58, 53, 57] : List UInt8).length) = zv l 26 := rfl
    rw [hz'] at e31
    have ck : decide ((0 : Int) ≤ (kw : Int)) = true := decide_eq_true (by omega)
    by_cases he : e = 0
    · have ce := decide_eq_true he
      by_cases hw : wk = (kw : Int)
      · have cw := decide_eq_true hw
        rw [if_neg (fun hx => hx.2.2 hw)]
        simp only [F5, h.ref, Option.bind_some, F24_eq, e25, hb, cneg, cond_false, cond_true, c0, c1, Bool.and_self, Int.toNat_natCast, hgt, c2, g0, f28, e27w, Int.reduceAdd, wn6, c3, c3', tn, g1, e29d, f30, wn7, wn8, wn12, wn17, wn20, wn22, wn23, wn25, wn26, e27, ey, eh, emi, c4, c4', tn2, hsg, Rm.2, cs, es, e32, e31, agr_self, ce, ck, e33, e34, cw, Bool.not_true]
      · have cw := decide_eq_false hw
        rw [if_pos ⟨he, by omega, hw⟩]
        simp only [F5, h.ref, Option.bind_some, F24_eq, e25, hb, cneg, cond_false, cond_true, c0, c1, Bool.and_self, Int.toNat_natCast, hgt, c2, g0, f28, e27w, Int.reduceAdd, wn6, c3, c3', tn, g1, e29d, f30, wn7, wn8, wn12, wn17, wn20, wn22, wn23, wn25, wn26, e27, ey, eh, emi, c4, c4', tn2, hsg, Rm.2, cs, es, e32, e31, agr_self, ce, ck, e33, e34, cw, Bool.not_false]
    · have ce := decide_eq_false he
      rw [if_neg (fun hx => he hx.1)]
      simp only [F5, h.ref, Option.bind_some, F24_eq, e25, hb, cneg, cond_false, cond_true, c0, c1, Bool.and_self, Int.toNat_natCast, hgt, c2, g0, f28, e27w, Int.reduceAdd, wn6, c3, c3', tn, g1, e29d, f30, wn7, wn8, wn12, wn17, wn20, wn22, wn23, wn25, wn26, e27, ey, eh, emi, c4, c4', tn2, hsg, Rm.2, cs, es, e32, e31, agr_self, ce, ck, Bool.false_and]
  · have hqe : hq true l (7 + 10) = [50, 51, 58, 53, 57] := by unfold hq; rw [if_pos ⟨rfl, hs⟩]
    have Rz := R.zone
    rw [hqe] at Rz e31
    have cs : decide (peek l 22 = [58]) = false := decide_eq_false hs
    have e32 : F32 ((l, 23, ()), ()) = some (zv l 23, ()) := zone_eq (a := 23) hl Rz
    have hsv : sv true l (7 + 10) = w64 (w64 (3600 * dv l 2 0 17) + w64 (60 * dv l 2 0 20)) := by
      unfold sv; rw [if_pos ⟨rfl, hs⟩, Int.add_zero]; exact (sv_w0 R.hour.2 R.min.2).symm
    rw [hsv] at e31
    have hz' : zv l (7 + 11 + ([50, 51, 58, 53, 57] : List UInt8).length) = zv l 23 := rfl
    rw [hz'] at e31
    have ck : decide ((0 : Int) ≤ (kw : Int)) = true := decide_eq_true (by omega)
    by_cases he : e = 0
    · have ce := decide_eq_true he
      by_cases hw : wk = (kw : Int)
      · have cw := decide_eq_true hw
        rw [if_neg (fun hx => hx.2.2 hw)]
        simp only [F5, h.ref, Option.bind_some, F24_eq, e25, hb, cneg, cond_false, cond_true, c0, c1, Bool.and_self, Int.toNat_natCast, hgt, c2, g0, f28, e27w, Int.reduceAdd, wn6, c3, c3', tn, g1, e29d, f30, wn7, wn8, wn12, wn17, wn20, wn22, wn23, e27, ey, eh, emi, c4, c4', tn2, hsg, Rm.2, cs, e32, e31, agr_self, ce, ck, e33, e34, cw, Bool.not_true]
      · have cw := decide_eq_false hw
        rw [if_pos ⟨he, by omega, hw⟩]
        simp only [F5, h.ref, Option.bind_some, F24_eq, e25, hb, cneg, cond_false, cond_true, c0, c1, Bool.and_self, Int.toNat_natCast, hgt, c2, g0, f28, e27w, Int.reduceAdd, wn6, c3, c3', tn, g1, e29d, f30, wn7, wn8, wn12, wn17, wn20, wn22, wn23, e27, ey, eh, emi, c4, c4', tn2, hsg, Rm.2, cs, e32, e31, agr_self, ce, ck, e33, e34, cw, Bool.not_false]
    · have ce := decide_eq_false he
      rw [if_neg (fun hx => he hx.1)]
      simp only [F5, h.ref, Option.bind_some, F24_eq, e25, hb, cneg, cond_false, cond_true, c0, c1, Bool.and_self, Int.toNat_natCast, hgt, c2, g0, f28, e27w, Int.reduceAdd, wn6, c3, c3', tn, g1, e29d, f30, wn7, wn8, wn12, wn17, wn20, wn22, wn23, e27, ey, eh, emi, c4, c4', tn2, hsg, Rm.2, cs, e32, e31, agr_self, ce, ck, Bool.false_and]

/-- A letter's moment. -/
theorem parse_law {s : List UInt8} {l : Ls} (h : Lt s l) : ∃ r, F4 ((s, ()), ()) = some r ∧ F5 ((s, ()), ()) = some r := by
  have hl := h.len
  have hg := h.good
  obtain ⟨w, d, v, z, I⟩ := ix l
  have hb := bst_parse I
  obtain ⟨hp, hS⟩ := parse_sim (l := l) hg
  rw [F4_run h, hp]
  rcases end_cases (l := l) (pq l) with ⟨hf, hz, hlast⟩ | ⟨hf, hc⟩
  · rw [if_pos hf] at hb
    have S := hS (full_true hf).1
    have e0 := I.pwq
    have e1 := I.pdq
    rw [e0, e1] at S
    obtain ⟨t, u, e, n, b, wk, e31, e33, e34, x, e22⟩ := fin_eq l (parseP l).y (parseP l).m (parseP l).d (parseP l).s (parseP l).z (parseP l).k
    have e5 : F5 ((s, ()), ()) = some ((if e = 0 ∧ 0 ≤ (parseP l).k ∧ wk ≠ (parseP l).k then ((0, 0, ()), 0, 2, ()) else ((t, u, ()), 0, e, ())), ()) := by
      have hw : w = 0 ∨ w = 1 := by have := I.w2; omega
      have hd : d = 0 ∨ d = 1 := by have := I.d2; omega
      rcases hw with rfl | rfl <;> rcases hd with rfl | rfl
      · exact full_00 h I hf hb S e31 e33 e34
      · exact full_01 h I hf hb S e31 e33 e34
      · exact full_10 h I hf hb S e31 e33 e34
      · exact full_11 h I hf hb S e31 e33 e34
    rw [e5, hz, hlast, e22]
    split
    · exact ⟨_, rfl, rfl⟩
    · exact ⟨_, rfl, rfl⟩
  · rw [if_neg (by rw [hf]; simp)] at hb
    have cneg : decide ((-1 : Int) < 0) = true := by decide
    have e25 := F25_eq' hg hl (all := PA) (by decide) PA_ok
    have e5 : F5 ((s, ()), ()) = some (((0, 0, ()), ((mt l (pq l) 0).1 : Int), (if (mt l (pq l) 0).1 = l.length then 3 else 4), ()), ()) := by
      simp only [F5, h.ref, Option.bind_some, F24_eq, e25, hb, cneg, cond_true, F26_eq']
    obtain ⟨x, hx⟩ := stop_law hf hc (parseP l).y (parseP l).m (parseP l).d (parseP l).s (parseP l).z (parseP l).k
    rw [e5, hx]
    exact ⟨_, rfl, rfl⟩

end Go.Dt

namespace Go.Dt
open Go Go.Ev

theorem law3 {s : List UInt8} (hs : s.length ≤ 1100000) : F3 ((s, ()), ()) = some (true, ()) := by
  obtain ⟨l, h⟩ := lt_of hs
  obtain ⟨r1, a1, a2⟩ := parse_law h
  obtain ⟨r2, b1, b2⟩ := short_law h
  obtain ⟨r3, c1, c2⟩ := day_law h
  simp only [F3, a1, a2, b1, b2, c1, c2, Option.bind_some, live12, decide_true, Bool.and_self]

end Go.Dt
