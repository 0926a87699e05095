/- The readers of sets, walked. -/
import Derived.Test.YtbnmcdcpendjjaaDoorBd4
namespace Go.Bd
open Go Go.Ev
set_option maxRecDepth 100000

/-- a digit taken -/
def dig (n c : Int) : Option Int := if c < 48 ∨ 57 < c then none else if 10 * n + (c - 48) = 0 ∨ 4294967295 < 10 * n + (c - 48) then none else some (10 * n + (c - 48))

theorem F19_eq (st n pl most c : Int) (sr : Bool) (ps : List Pr) (h1 : 0 ≤ n) (h2 : n ≤ 4294967295) :
    F19 (((), c, ()), ((st, n, pl, sr, most, (), ()), ps, ())) = some (match dig n c with | some m => (true, ((st, m, pl, sr, most, (), ()), ps, ())) | none => (false, ((st, n, pl, sr, most, (), ()), ps, ()))) := by
  unfold dig
  by_cases hc : c < 48 ∨ 57 < c
  · have e : (decide (c < 48) || decide (57 < c)) = true := by simpa using hc
    simp only [F19, e, cond_true, Option.bind_some, hc, ↓reduceIte]
  · have e : (decide (c < 48) || decide (57 < c)) = false := by
      rw [Bool.or_eq_false_iff, decide_eq_false_iff_not, decide_eq_false_iff_not]; omega
    have hd : w64 (IntKind.wrap .i32 (c - 48)) = c - 48 := by
      have e1 : IntKind.wrap .i32 (c - 48) = c - 48 := by
        unfold IntKind.wrap
        simp only [IntKind.bits, IntKind.signed]
        by_cases h : (c - 48) % 2 ^ 32 ≥ 2 ^ 31
        · simp; omega
        · simp; omega
      rw [e1]
      exact w64_id (by omega) (by omega)
    simp only [F19, e, cond_false, hd, hc, ↓reduceIte, ← Bool.decide_and]
    by_cases hz : n = 0 ∧ c - 48 = 0
    · have h3 : 10 * n + (c - 48) = 0 ∨ 4294967295 < 10 * n + (c - 48) := by omega
      simp only [hz, h3, and_self, decide_true, cond_true, Option.bind_some, ↓reduceIte]
      rw [if_pos (by omega)]
    · simp only [hz, decide_false, cond_false, Option.bind_some]
      have hq : w64 (Int.tdiv (w64 (4294967295 - (c - 48))) 10) = (4294967295 - (c - 48)) / 10 := by
        rw [w64_id (n := 4294967295 - (c - 48)) (by omega) (by omega), Int.tdiv_eq_ediv_of_nonneg (by omega)]
        exact w64_id (by omega) (by omega)
      rw [hq]
      by_cases hb : (4294967295 - (c - 48)) / 10 < n
      · have h3 : 10 * n + (c - 48) = 0 ∨ 4294967295 < 10 * n + (c - 48) := by omega
        simp only [hb, h3, decide_true, cond_true, Option.bind_some, ↓reduceIte]
      · have h3 : ¬ (10 * n + (c - 48) = 0 ∨ 4294967295 < 10 * n + (c - 48)) := by omega
        have e5 : w64 (w64 (n * 10) + (c - 48)) = 10 * n + (c - 48) := by
          rw [w64_id (n := n * 10) (by omega) (by omega), w64_id (by omega) (by omega)]
          omega
        simp only [hb, h3, decide_false, cond_false, Option.bind_some, ↓reduceIte, e5]

def endV (st n most : Int) : Int := if st = 2 ∨ st = 5 then most else n
def endR (st n most : Int) (ps : List Pr) : List Pr :=
  if st = 4 ∨ st = 5 then ps.set (ps.length - 1) ((ps.getD (ps.length - 1) nop).1, endV st n most, ()) else ps ++ [(endV st n most, endV st n most, ())]

theorem F11_eq (st n pl most : Int) (sr : Bool) (ps : List Pr) (h1 : st = 4 ∨ st = 5 → 0 < ps.length) (h2 : ps.length ≤ 1100000) :
    F11 (((), ()), ((st, n, pl, sr, most, (), ()), ps, ())) = some ((), ((st, 0, pl, sr, most, (), ()), endR st n most ps, ())) := by
  have e1 : (cond (decide (st = 2 ∨ st = 5)) (some (((), most, ()), ((st, n, pl, sr, most, (), ()), ps, ()))) (some (((), n, ()), ((st, n, pl, sr, most, (), ()), ps, ())))) = some (((), endV st n most, ()), ((st, n, pl, sr, most, (), ()), ps, ())) := by
    unfold endV
    rw [Bool.cond_decide]
    split <;> rfl
  simp only [F11, ← Bool.decide_or, e1, Option.bind_some]
  unfold endR
  by_cases hs : st = 4 ∨ st = 5
  · have hp := h1 hs
    have e2 : w64 ((ps.length : Int) - 1) = ((ps.length - 1 : Nat) : Int) := by rw [w64_id (by omega) (by omega)]; omega
    have e3 : ps.length - 1 < ps.length := by omega
    simp only [hs, decide_true, cond_true, e2, nat_nn, nat_lt, e3, Bool.and_self, Int.toNat_natCast, Option.bind_some, ↓reduceIte]
  · have hb : bytesOK (ps.length + 1) 16 = true := bytes_ok (by omega)
    simp only [hs, decide_false, cond_false, List.length_cons, List.length_nil, Nat.zero_add, hb, cond_true, Option.bind_some, ↓reduceIte]

abbrev Q : Type := Int × Int × Bool × List Pr

def tk (most : Int) (q : Q) (c : Int) : Option Q :=
  if (q.1 = 0 ∨ q.1 = 3) ∧ c = 42 then some (if q.1 = 3 then 5 else 2, q.2.1, true, q.2.2.2)
  else match (if q.1 ≠ 2 ∧ q.1 ≠ 5 then dig q.2.1 c else none) with
    | some m => some (if q.1 = 3 ∨ q.1 = 4 then 4 else 1, m, q.2.2.1, q.2.2.2)
    | none => if q.1 ≠ 0 ∧ q.1 ≠ 3 ∧ c = 44 then some (0, 0, q.2.2.1, endR q.1 q.2.1 most q.2.2.2)
      else if (q.1 = 1 ∨ q.1 = 2) ∧ c = 58 then some (3, 0, q.2.2.1, endR q.1 q.2.1 most q.2.2.2) else none

theorem F10_eq (most c pl : Int) (q : Q) (h1 : 0 ≤ q.2.1) (h2 : q.2.1 ≤ 4294967295) (h3 : q.1 = 4 ∨ q.1 = 5 → 0 < q.2.2.2.length) (h4 : q.2.2.2.length ≤ 1100000) :
    F10 (((), c, ()), ((q.1, q.2.1, pl, q.2.2.1, most, (), ()), q.2.2.2, ())) = some (match tk most q c with | some r => (true, ((r.1, r.2.1, pl, r.2.2.1, most, (), ()), r.2.2.2, ())) | none => (false, ((q.1, q.2.1, pl, q.2.2.1, most, (), ()), q.2.2.2, ()))) := by
  obtain ⟨st, n, sr, ps⟩ := q
  simp only at h1 h2 h3 h4
  have e19 := F19_eq st n pl most c sr ps h1 h2
  have e11 := F11_eq st n pl most sr ps h3 h4
  unfold tk
  simp only [F10, Option.bind_some]
  by_cases ha : (st = 0 ∨ st = 3) ∧ c = 42
  · have hb : ((decide (st = 0) || decide (st = 3)) && decide (c = 42)) = true := by simpa using ha
    simp only [hb, cond_true, Option.bind_some, ha.1, ha.2, and_self, ↓reduceIte]
    rcases ha.1 with rfl | rfl <;> rfl
  · have hb : ((decide (st = 0) || decide (st = 3)) && decide (c = 42)) = false := by
      rw [← Bool.not_eq_true, Bool.and_eq_true, Bool.or_eq_true, decide_eq_true_eq, decide_eq_true_eq, decide_eq_true_eq]; exact ha
    simp only [hb, cond_false, ha, ↓reduceIte]
    by_cases hd : st ≠ 2 ∧ st ≠ 5
    · have hd' : (!decide (st = 2) && !decide (st = 5)) = true := by simpa using hd
      simp only [hd', cond_true]
      rw [if_pos hd, e19]
      cases hg : dig n c with
      | some m =>
        simp only [Option.bind_some, cond_true]
        by_cases h34 : st = 3 ∨ st = 4
        · have : (decide (st = 3) || decide (st = 4) || decide (st = 5)) = true := by
            rcases h34 with rfl | rfl <;> rfl
          simp only [this, h34, cond_true, Option.bind_some, ↓reduceIte]
        · have : (decide (st = 3) || decide (st = 4) || decide (st = 5)) = false := by
            simp only [Bool.or_eq_false_iff, decide_eq_false_iff_not]; omega
          simp only [this, h34, cond_false, Option.bind_some, ↓reduceIte]
      | none =>
        simp only [Option.bind_some, cond_false]
        by_cases hk : st ≠ 0 ∧ st ≠ 3 ∧ c = 44
        · have hk' : (!decide (st = 0) && !decide (st = 3) && decide (c = 44)) = true := by simpa [and_assoc] using hk
          simp only [hk', cond_true, e11, Option.bind_some]
          rw [if_pos hk]
        · have hk' : (!decide (st = 0) && !decide (st = 3) && decide (c = 44)) = false := by
            rw [← Bool.not_eq_true]; simpa [and_assoc] using hk
          simp only [hk', cond_false]
          rw [if_neg hk]
          by_cases hl : (st = 1 ∨ st = 2) ∧ c = 58
          · have hl' : ((decide (st = 1) || decide (st = 2)) && decide (c = 58)) = true := by simpa using hl
            simp only [hl', cond_true, e11, Option.bind_some]
            rw [if_pos hl]
          · have hl' : ((decide (st = 1) || decide (st = 2)) && decide (c = 58)) = false := by
              rw [← Bool.not_eq_true, Bool.and_eq_true, Bool.or_eq_true, decide_eq_true_eq, decide_eq_true_eq, decide_eq_true_eq]; exact hl
            simp only [hl', cond_false, Option.bind_some]
            rw [if_neg hl]
    · have hd' : (!decide (st = 2) && !decide (st = 5)) = false := by
        rw [← Bool.not_eq_true]; simpa using hd
      simp only [hd', cond_false, Option.bind_some]
      rw [if_neg hd]
      simp only
      by_cases hk : st ≠ 0 ∧ st ≠ 3 ∧ c = 44
      · have hk' : (!decide (st = 0) && !decide (st = 3) && decide (c = 44)) = true := by simpa [and_assoc] using hk
        simp only [hk', cond_true, e11, Option.bind_some]
        rw [if_pos hk]
      · have hk' : (!decide (st = 0) && !decide (st = 3) && decide (c = 44)) = false := by
          rw [← Bool.not_eq_true]; simpa [and_assoc] using hk
        simp only [hk', cond_false]
        rw [if_neg hk]
        by_cases hl : (st = 1 ∨ st = 2) ∧ c = 58
        · have hl' : ((decide (st = 1) || decide (st = 2)) && decide (c = 58)) = true := by simpa using hl
          simp only [hl', cond_true, e11, Option.bind_some]
          rw [if_pos hl]
        · have hl' : ((decide (st = 1) || decide (st = 2)) && decide (c = 58)) = false := by
            rw [← Bool.not_eq_true, Bool.and_eq_true, Bool.or_eq_true, decide_eq_true_eq, decide_eq_true_eq, decide_eq_true_eq]; exact hl
          simp only [hl', cond_false, Option.bind_some]
          rw [if_neg hl]

/-- what a reader's state is like -/
structure W (q : Q) : Prop where
  n0 : 0 ≤ q.2.1
  n1 : q.2.1 ≤ 4294967295
  st : 0 ≤ q.1 ∧ q.1 ≤ 5
  part : q.1 = 3 ∨ q.1 = 4 ∨ q.1 = 5 → 0 < q.2.2.2.length
  each : ∀ p ∈ q.2.2.2, small p

theorem endV_small {st n most : Int} (h1 : 0 ≤ n) (h2 : n ≤ 4294967295) (hm : 0 ≤ most ∧ most ≤ 4294967295) : 0 ≤ endV st n most ∧ endV st n most ≤ 4294967295 := by
  unfold endV; split <;> omega

theorem endR_ok {q : Q} {most : Int} (w : W q) (hm : 0 ≤ most ∧ most ≤ 4294967295) : (∀ p ∈ endR q.1 q.2.1 most q.2.2.2, small p) ∧ 0 < (endR q.1 q.2.1 most q.2.2.2).length ∧ (endR q.1 q.2.1 most q.2.2.2).length ≤ q.2.2.2.length + 1 := by
  have hv := endV_small (st := q.1) w.n0 w.n1 hm
  unfold endR
  by_cases hs : q.1 = 4 ∨ q.1 = 5
  · rw [if_pos hs]
    have hp := w.part (.inr hs)
    refine ⟨fun p hp' => ?_, by rw [List.length_set]; exact hp, by rw [List.length_set]; omega⟩
    rcases List.mem_or_eq_of_mem_set hp' with h | rfl
    · exact w.each p h
    · have hg : small (q.2.2.2.getD (q.2.2.2.length - 1) nop) := by
        rw [List.getD_eq_getElem?_getD, List.getElem?_eq_getElem (show q.2.2.2.length - 1 < q.2.2.2.length by omega)]
        exact w.each _ (List.getElem_mem _)
      unfold small at *
      simp only
      omega
  · rw [if_neg hs]
    refine ⟨fun p hp' => ?_, by simp, by simp⟩
    rcases List.mem_append.mp hp' with h | h
    · exact w.each p h
    · rw [List.mem_singleton.mp h]
      unfold small
      simp only
      omega

theorem dig_ok {n c m : Int} (h : 0 ≤ n) (hd : dig n c = some m) : 0 < m ∧ m ≤ 4294967295 ∧ 48 ≤ c ∧ c ≤ 57 ∧ m = 10 * n + (c - 48) := by
  unfold dig at hd
  split at hd
  · cases hd
  · split at hd
    · cases hd
    · injection hd with hd
      omega

theorem tk_ok {q r : Q} {most c : Int} (w : W q) (hm : 0 ≤ most ∧ most ≤ 4294967295) (h : tk most q c = some r) : W r ∧ r.2.2.2.length ≤ q.2.2.2.length + 1 := by
  obtain ⟨e1, e2, e3⟩ := endR_ok w hm
  unfold tk at h
  split at h
  · rename_i hs
    injection h with h; subst h
    refine ⟨⟨w.n0, w.n1, by simp only; split <;> omega, fun hh => ?_, w.each⟩, by simp⟩
    simp only at hh ⊢
    split at hh
    · exact w.part (by omega)
    · omega
  · split at h
    · rename_i m hd
      injection h with h; subst h
      split at hd
      · obtain ⟨d1, d2, _⟩ := dig_ok w.n0 hd
        refine ⟨⟨by simp only; omega, d2, by simp only; split <;> omega, fun hh => ?_, w.each⟩, by simp⟩
        simp only at hh ⊢
        split at hh
        · exact w.part (by omega)
        · omega
      · cases hd
    · split at h
      · injection h with h; subst h
        exact ⟨⟨Int.le_refl _, by simp only; omega, by simp only; omega, fun hh => by simp only at hh; omega, e1⟩, e3⟩
      · split at h
        · injection h with h; subst h
          exact ⟨⟨Int.le_refl _, by simp only; omega, by simp only; omega, fun _ => e2, e1⟩, e3⟩
        · cases h

abbrev R5 : Type := ((Int × Unit × Unit) × ((Int × Int × Int × Bool × Int × Unit × Unit) × List Pr × Unit)) ⊕ ((Unit × Int × Unit × Unit) × (List Pr × Unit))

def runA (most : Int) : Q → Nat → List Int → R5
  | q, pl, [] => .inl ((most, (), ()), ((q.1, q.2.1, (pl : Int), q.2.2.1, most, (), ()), q.2.2.2, ()))
  | q, pl, v :: vs => match tk most q v with
    | none => .inr (((), (pl : Int), (), ()), ([], ()))
    | some r => runA most r (pl + 1) vs

theorem L5_iter (s : List UInt8) (most : Int) (hm : 0 ≤ most ∧ most ≤ 4294967295) (hs : s.length ≤ 1100000) : ∀ (k m : Nat) (q : Q) (pl i : Nat), i ≤ s.length → s.length - i ≤ m → s.length - i < k → W q → q.2.2.2.length ≤ pl → pl ≤ i →
    iter B5_0 k ((most, (), (), ()), ((q.1, q.2.1, (pl : Int), q.2.2.1, most, (), ()), (s, i), q.2.2.2, ())) = some (runA most q pl (runes m (s.drop i)))
  | 0, _, _, _, _, _, _, h, _, _, _ => absurd h (Nat.not_lt_zero _)
  | k + 1, m, q, pl, i, hi, hm', hk, w, hl, hp => by
    by_cases hlt : i < s.length
    · have hne : s.drop i ≠ [] := by
        intro he
        have := congrArg List.length he
        rw [List.length_drop, List.length_nil] at this
        omega
      obtain ⟨w1, w2, _⟩ := wid_pos hne
      rw [List.length_drop] at w2
      obtain ⟨m, rfl⟩ : ∃ x, m = x + 1 := ⟨m - 1, by omega⟩
      have hr : runes (m + 1) (s.drop i) = ((Go.Lib.decodeL (s.drop i)).1 : Int) :: runes m (s.drop (i + wid (s.drop i))) := by
        simp only [runes]
        rw [if_neg hne, List.drop_drop]
      have e10 := F10_eq most ((Go.Lib.decodeL (s.drop i)).1 : Int) (pl : Int) q w.n0 w.n1 (fun h => w.part (.inr h)) (by omega)
      rw [hr]
      simp only [iter, B5_0, hlt, decide_true, cond_true, dec_at hlt, runA]
      rw [e10]
      cases ht : tk most q ((Go.Lib.decodeL (s.drop i)).1 : Int) with
      | none => simp only [Option.bind_some, Bool.not_false, cond_true]
      | some r =>
        obtain ⟨w', hl'⟩ := tk_ok w hm ht
        simp only [Option.bind_some, Bool.not_true, cond_false, w64_nat (show pl < 9223372036854775807 by omega)]
        rw [← wid_eq hne]
        exact L5_iter s most hm hs k m r (pl + 1) (i + wid (s.drop i)) (by omega) (by omega) (by omega) w' (by omega) (by omega)
    · obtain rfl : i = s.length := by omega
      have hr : runes m (s.drop s.length) = [] := by
        rw [List.drop_length]
        cases m <;> rfl
      rw [hr]
      simp only [iter, B5_0, Nat.lt_irrefl, decide_false, cond_false, runA]

/-- what the reader tells -/
def resB (most : Int) : R5 → List Pr × Int × Int × Unit
  | .inr q => ([], q.1.2.1, 4, ())
  | .inl p => if p.2.1.1 = 0 ∨ p.2.1.1 = 3 then ([], p.2.1.2.2.1, 3, ())
    else if 32 < (endR p.2.1.1 p.2.1.2.1 most p.2.2.1).length then ([], 0, 6, ())
    else if p.2.1.2.2.2.1 && decide (most = 0) then ([], 0, 2, ())
    else (joined (endR p.2.1.1 p.2.1.2.1 most p.2.2.1), 0, 0, ())

theorem runA_ok {most : Int} (hm : 0 ≤ most ∧ most ≤ 4294967295) : ∀ (vs : List Int) (q : Q) (pl : Nat), W q → q.2.2.2.length ≤ pl →
    (∃ (r : Q) (x : Nat), runA most q pl vs = .inl ((most, (), ()), ((r.1, r.2.1, (x : Int), r.2.2.1, most, (), ()), r.2.2.2, ())) ∧ W r ∧ r.2.2.2.length ≤ pl + vs.length) ∨ ∃ x : Nat, runA most q pl vs = .inr (((), (x : Int), (), ()), ([], ()))
  | [], q, pl, w, hl => .inl ⟨q, pl, rfl, w, by simpa using hl⟩
  | v :: vs, q, pl, w, hl => by
    simp only [runA]
    cases ht : tk most q v with
    | none => exact .inr ⟨pl, rfl⟩
    | some r =>
      obtain ⟨w', hl'⟩ := tk_ok w hm ht
      rcases runA_ok hm vs r (pl + 1) w' (by omega) with ⟨r', x, h1, h2, h3⟩ | ⟨x, h⟩
      · exact .inl ⟨r', x, h1, h2, by simp only [List.length_cons]; omega⟩
      · exact .inr ⟨x, h⟩

theorem runes_len : ∀ (n : Nat) (s : List UInt8), (runes n s).length ≤ n
  | 0, s => by simp [runes]
  | n + 1, s => by
    unfold runes
    split
    · simp
    · simp only [List.length_cons]
      have := runes_len n (s.drop (wid s)); omega

theorem W0 : W (0, 0, false, []) := ⟨Int.le_refl _, by simp only; omega, by simp only; omega, fun h => by simp only at h; omega, fun p h => by cases h⟩

theorem F5_eq (s : List UInt8) (most : Int) (hs : s.length ≤ 1100000) : F5 ((s, most, ()), ()) = some (if most < 0 ∨ 4294967295 < most then ([], 0, 2, ()) else resB most (runA most (0, 0, false, []) 0 (runes s.length s)), ()) := by
  by_cases hm : most < 0 ∨ 4294967295 < most
  · have : (decide (most < 0) || decide (4294967295 < most)) = true := by simpa using hm
    simp only [F5, this, cond_true, hm, ↓reduceIte]
  · have hm1 : (decide (most < 0) || decide (4294967295 < most)) = false := by
      rw [Bool.or_eq_false_iff, decide_eq_false_iff_not, decide_eq_false_iff_not]; omega
    have hm2 : 0 ≤ most ∧ most ≤ 4294967295 := by omega
    have h := L5_iter s most hm2 hs FUEL s.length (0, 0, false, []) 0 0 (Nat.zero_le _) (by omega) (by unfold FUEL; omega) W0 (Nat.le_refl _) (Nat.le_refl _)
    have h' : L5_0 ((most, (), (), ()), (((0:Int), (0:Int), (0:Int), false, most, (), ()), (s, 0), [], ())) = some (runA most (0, 0, false, []) 0 (runes s.length s)) := h
    simp only [F5, hm1, cond_false, hm, ↓reduceIte, h']
    rcases runA_ok hm2 (runes s.length s) (0, 0, false, []) 0 W0 (Nat.le_refl _) with ⟨r, x, h1, w, hl⟩ | ⟨x, h1⟩
    · rw [h1]
      have := runes_len s.length s
      obtain ⟨g1, g2, g3⟩ := endR_ok w hm2
      have e11 := F11_eq r.1 r.2.1 (x : Int) most r.2.2.1 r.2.2.2 (fun h => w.part (.inr h)) (by omega)
      simp only [Option.bind_some, resB, ← Bool.decide_or]
      by_cases hst : r.1 = 0 ∨ r.1 = 3
      · simp only [hst, decide_true, cond_true, ↓reduceIte]
      · simp only [hst, decide_false, cond_false, e11, Option.bind_some, ↓reduceIte]
        by_cases h32 : 32 < (endR r.1 r.2.1 most r.2.2.2).length
        · have : (32 : Int) < ((endR r.1 r.2.1 most r.2.2.2).length : Int) := by omega
          simp only [h32, this, decide_true, cond_true, ↓reduceIte]
        · have : ¬ (32 : Int) < ((endR r.1 r.2.1 most r.2.2.2).length : Int) := by omega
          have e12 := F12_eq (endR r.1 r.2.1 most r.2.2.2) (by omega) (fun h => by rw [h] at g2; simp at g2) g1
          simp only [h32, this, decide_false, cond_false, ↓reduceIte, e12, Option.bind_some]
          cases (r.2.2.1 && decide (most = 0))
          · simp only [cond_false, Bool.false_eq_true, ↓reduceIte]
          · simp only [cond_true, ↓reduceIte]
    · rw [h1]
      simp only [Option.bind_some, resB]

/-! the reference -/
def isd (c : List UInt8) : Bool := decide (c.length = 1) && decide (48 ≤ (c.getD 0 0).toNat) && decide ((c.getD 0 0).toNat ≤ 57)

def digs : Int → Ls → (Int × Ls) ⊕ Ls
  | n, [] => .inl (n, [])
  | n, c :: t => if isd c then (if 10 * n + (((c.getD 0 0).toNat : Int) - 48) = 0 ∨ 4294967295 < 10 * n + (((c.getD 0 0).toNat : Int) - 48) then .inr (c :: t) else digs (10 * n + (((c.getD 0 0).toNat : Int) - 48)) t) else .inl (n, c :: t)

abbrev R23 : Type := ((Int × Int × Int × Unit) × Unit) ⊕ ((Unit × Int × Unit × Unit) × Unit)

def res23 (len : Nat) (a : Int) : (Int × Ls) ⊕ Ls → R23
  | .inl p => .inl ((a, p.1, ((len - p.2.length : Nat) : Int), ()), ())
  | .inr r => .inr (((), ((len - r.length : Nat) : Int), (), ()), ())

theorem L23_iter (L : Ls) (a : Int) (hL : L.length ≤ 1100000) : ∀ (k i : Nat) (n : Int), i ≤ L.length → L.length - i < k → 0 ≤ n → n ≤ 4294967295 →
    iter B23_0 k ((L, a, n, (i : Int), ()), ()) = some (res23 L.length a (digs n (L.drop i)))
  | 0, _, _, _, h, _, _ => absurd h (Nat.not_lt_zero _)
  | k + 1, i, n, hi, hk, h0, h1 => by
    by_cases hlt : i < L.length
    · have hd := List.drop_eq_getElem_cons hlt
      have hg : L.getD i [] = L[i] := by rw [List.getD_eq_getElem?_getD, List.getElem?_eq_getElem hlt]; rfl
      rw [hd]
      have hc : (((decide (L[i].length = 1) && decide (UInt8.toNat 48 ≤ (L[i].getD 0 0).toNat)) && decide ((L[i].getD 0 0).toNat ≤ UInt8.toNat 57))) = isd L[i] := rfl
      have hlen1 : decide (((L[i].length : Nat) : Int) = 1) = decide (L[i].length = 1) := by
        rw [decide_eq_decide]; omega
      simp only [iter, B23_0, nat_lt, nat_nn, hlt, decide_true, Bool.and_true, Bool.true_and, Bool.true_or, cond_true, Int.toNat_natCast, hg, hlen1, hc]
      have hz : (decide ((0:Int) < ((L[i].length : Nat) : Int)) || !(decide (L[i].length = 1))) = true := by
        by_cases h : L[i].length = 1
        · rw [h]; rfl
        · simp [h]
      have hz2 : (decide ((0:Int) < ((L[i].length : Nat) : Int)) || !(decide (L[i].length = 1) && decide (UInt8.toNat 48 ≤ (L[i].getD 0 0).toNat))) = true := by
        by_cases h : L[i].length = 1
        · rw [h]; rfl
        · simp [h]
      simp only [hz, hz2, cond_true]
      by_cases his : isd L[i] = true
      · have his' := his
        unfold isd at his'
        rw [Bool.and_eq_true, Bool.and_eq_true, decide_eq_true_eq, decide_eq_true_eq, decide_eq_true_eq] at his'
        have hpos : decide ((0:Int) < ((L[i].length : Nat) : Int)) = true := by rw [his'.1.1]; rfl
        have hm : w64 (w64 (w64 (10 * n) + (((L[i].getD 0 0).toNat : Nat) : Int)) - 48) = 10 * n + ((((L[i].getD 0 0).toNat : Nat) : Int) - 48) := by
          rw [w64_id (n := 10 * n) (by omega) (by omega), w64_id (n := 10 * n + _) (by omega) (by omega), w64_id (by omega) (by omega)]
          omega
        simp only [his, cond_true, hpos, Option.bind_some, hm, ← Bool.decide_or, digs, ↓reduceIte]
        by_cases hb : 10 * n + ((((L[i].getD 0 0).toNat : Nat) : Int) - 48) = 0 ∨ 4294967295 < 10 * n + ((((L[i].getD 0 0).toNat : Nat) : Int) - 48)
        · simp only [hb, decide_true, cond_true, ↓reduceIte, res23, List.length_cons, List.length_drop]
          rw [show L.length - (L.length - (i + 1) + 1) = i by omega]
        · simp only [hb, decide_false, cond_false, ↓reduceIte, w64_nat (show i < 9223372036854775807 by omega)]
          exact L23_iter L a hL k (i + 1) _ (by omega) (by omega) (by omega) (by omega)
      · rw [Bool.not_eq_true] at his
        simp only [his, cond_false, digs, Bool.false_eq_true, ↓reduceIte, res23, List.length_cons, List.length_drop]
        rw [show L.length - (L.length - (i + 1) + 1) = i by omega]
    · obtain rfl : i = L.length := by omega
      rw [List.drop_length]
      simp only [iter, B23_0, Int.lt_irrefl, decide_false, Bool.and_false, Bool.false_and, Bool.not_false, Bool.or_true, cond_true, cond_false, digs, res23, List.length_nil, Nat.sub_zero]

def star : List UInt8 := [42]

/-- one number, or a star -/
def ones (r : Ls) : Int × Ls × Bool :=
  if r ≠ [] ∧ r.getD 0 [] = star then (-1, r.drop 1, true)
  else match digs 0 r with
    | .inl p => (p.1, p.2, decide (p.2.length < r.length))
    | .inr t => (0, t, false)

theorem digs_len : ∀ (r : Ls) (n : Int), match digs n r with | .inl p => p.2.length ≤ r.length | .inr t => t.length ≤ r.length
  | [], n => by simp [digs]
  | c :: t, n => by
    simp only [digs]
    by_cases h : isd c = true
    · rw [if_pos h]
      by_cases hb : 10 * n + (((c.getD 0 0).toNat : Int) - 48) = 0 ∨ 4294967295 < 10 * n + (((c.getD 0 0).toNat : Int) - 48)
      · rw [if_pos hb]; exact Nat.le_refl _
      · rw [if_neg hb]
        have := digs_len t (10 * n + (((c.getD 0 0).toNat : Int) - 48))
        cases hd : digs (10 * n + (((c.getD 0 0).toNat : Int) - 48)) t with
        | inl p => rw [hd] at this; simp only [List.length_cons] at *; omega
        | inr p => rw [hd] at this; simp only [List.length_cons] at *; omega
    · rw [if_neg h]; exact Nat.le_refl _

theorem ones_len (r : Ls) : (ones r).2.1.length ≤ r.length := by
  unfold ones
  split
  · simp
  · have := digs_len r 0
    cases hd : digs 0 r with
    | inl p => rw [hd] at this; exact this
    | inr p => rw [hd] at this; exact this

theorem F23_eq (L : Ls) (i : Nat) (hL : L.length ≤ 1100000) (hi : i ≤ L.length) :
    F23 ((L, (i : Int), ()), ()) = some (((ones (L.drop i)).1, ((L.length - (ones (L.drop i)).2.1.length : Nat) : Int), (ones (L.drop i)).2.2, ()), ()) := by
  have h := L23_iter L (i : Int) hL FUEL i 0 hi (by unfold FUEL; omega) (Int.le_refl _) (by omega)
  have h' : L23_0 ((L, (i : Int), (0:Int), (i : Int), ()), ()) = _ := h
  have c1 : ((decide ((0:Int) ≤ (i : Int)) && decide (i < L.length)) || !(decide (i < L.length))) = true := by
    rw [nat_nn, Bool.true_and]; cases decide (i < L.length) <;> rfl
  have hst : (decide (i < L.length) && decide (L.getD i [] = [42])) = decide (L.drop i ≠ [] ∧ (L.drop i).getD 0 [] = star) := by
    rw [Bool.eq_iff_iff, Bool.and_eq_true, decide_eq_true_eq, decide_eq_true_eq, decide_eq_true_eq]
    have e : (L.drop i).getD 0 [] = L.getD i [] := by
      rw [List.getD_eq_getElem?_getD, List.getD_eq_getElem?_getD, List.getElem?_drop, Nat.add_zero]
    rw [e]
    refine and_congr ?_ Iff.rfl
    rw [ne_eq, List.drop_eq_nil_iff]
    omega
  simp only [F23, nat_lt, c1, cond_true, Int.toNat_natCast, hst, h']
  unfold ones
  by_cases hs : L.drop i ≠ [] ∧ (L.drop i).getD 0 [] = star
  · rw [if_pos hs, decide_eq_true hs]
    have hlt : i < L.length := by
      rcases Nat.lt_or_ge i L.length with h | h
      · exact h
      · exact absurd (List.drop_eq_nil_iff.mpr h) hs.1
    simp only [cond_true, w64_nat (show i < 9223372036854775807 by omega), List.length_drop]
    rw [show L.length - (L.length - i - 1) = i + 1 by omega]
  · rw [if_neg hs, decide_eq_false hs]
    have hl := digs_len (L.drop i) 0
    cases hd : digs 0 (L.drop i) with
    | inl p =>
      rw [hd] at hl
      simp only [List.length_drop] at hl
      have : decide (i < L.length - p.2.length) = decide (p.2.length < (L.drop i).length) := by
        rw [decide_eq_decide, List.length_drop]; omega
      simp only [cond_false, res23, Option.bind_some, nat_lt, this]
    | inr p => simp only [cond_false, res23, Option.bind_some]

/-- a part -/
def two (r : Ls) : Int × Int × Ls × Bool :=
  if (ones r).2.2 = true ∧ (ones r).2.1 ≠ [] ∧ (ones r).2.1.getD 0 [] = [58] then ((ones r).1, (ones ((ones r).2.1.drop 1)).1, (ones ((ones r).2.1.drop 1)).2.1, (ones ((ones r).2.1.drop 1)).2.2)
  else ((ones r).1, (ones r).1, (ones r).2.1, (ones r).2.2)

theorem two_len (r : Ls) : (two r).2.2.1.length ≤ r.length := by
  unfold two
  have h1 := ones_len r
  split
  · have h2 := ones_len ((ones r).2.1.drop 1)
    rw [List.length_drop] at h2
    simp only; omega
  · exact h1

abbrev R13 : Type := (Unit × Int × Int × Unit) × (List Pr × Unit)

def prs (len : Nat) : Nat → Ls → List Pr → R13
  | 0, _, _ => (((), 0, 0, ()), ([], ()))
  | k + 1, r, out =>
    if (two r).2.2.2 = false ∧ (two r).2.2.1 = [] then (((), (len : Int), 3, ()), ([], ()))
    else if (two r).2.2.2 = false ∨ ((two r).2.2.1 ≠ [] ∧ (two r).2.2.1.getD 0 [] ≠ [44]) then (((), ((len - (two r).2.2.1.length : Nat) : Int), 4, ()), ([], ()))
    else if (two r).2.2.1 = [] then (((), 0, 0, ()), (out ++ [((two r).1, (two r).2.1, ())], ()))
    else prs len k ((two r).2.2.1.drop 1) (out ++ [((two r).1, (two r).2.1, ())])

theorem L13_iter (L : Ls) (hL : L.length ≤ 1100000) : ∀ (k m i : Nat) (out : List Pr), i ≤ L.length → L.length - i < k → L.length - i < m → out.length ≤ i →
    iter B13_0 k ((L, (), (i : Int), ()), (out, ())) = some (prs L.length m (L.drop i) out)
  | 0, _, _, _, _, h, _, _ => absurd h (Nat.not_lt_zero _)
  | _ + 1, 0, _, _, _, _, h, _ => absurd h (Nat.not_lt_zero _)
  | k + 1, m + 1, i, out, hi, hk, hm, ho => by
    have e1 := F23_eq L i hL hi
    have l1 := ones_len (L.drop i)
    rw [List.length_drop] at l1
    have hdr : ∀ r : Ls, r.length ≤ L.length → (∃ j, r = L.drop j) → r = L.drop (L.length - r.length) := by
      rintro r hr ⟨j, rfl⟩
      rw [List.length_drop]
      rcases Nat.lt_or_ge j L.length with h | h
      · rw [show L.length - (L.length - j) = j by omega]
      · rw [show L.length - (L.length - j) = L.length by omega, List.drop_length, List.drop_eq_nil_of_le h]
    have digs_drop : ∀ (t : Ls) (n : Int), match digs n t with | .inl p => ∃ j, p.2 = t.drop j | .inr u => ∃ j, u = t.drop j := by
      intro t
      induction t with
      | nil => intro n; exact ⟨0, rfl⟩
      | cons c t ih =>
        intro n
        simp only [digs]
        by_cases h : isd c = true
        · rw [if_pos h]
          by_cases hb : 10 * n + (((c.getD 0 0).toNat : Int) - 48) = 0 ∨ 4294967295 < 10 * n + (((c.getD 0 0).toNat : Int) - 48)
          · rw [if_pos hb]; exact ⟨0, rfl⟩
          · rw [if_neg hb]
            have := ih (10 * n + (((c.getD 0 0).toNat : Int) - 48))
            cases hd : digs (10 * n + (((c.getD 0 0).toNat : Int) - 48)) t with
            | inl p => rw [hd] at this; obtain ⟨j, hj⟩ := this; exact ⟨j + 1, hj⟩
            | inr p => rw [hd] at this; obtain ⟨j, hj⟩ := this; exact ⟨j + 1, hj⟩
        · rw [if_neg h]; exact ⟨0, rfl⟩
    have ones_drop : ∀ t : Ls, ∃ j, (ones t).2.1 = t.drop j := by
      intro t
      unfold ones
      split
      · exact ⟨1, rfl⟩
      · have := digs_drop t 0
        cases hd : digs 0 t with
        | inl p => rw [hd] at this; exact this
        | inr p => rw [hd] at this; exact this
    have d1 : (ones (L.drop i)).2.1 = L.drop (L.length - (ones (L.drop i)).2.1.length) := by
      refine hdr _ (by omega) ?_
      obtain ⟨j, hj⟩ := ones_drop (L.drop i)
      exact ⟨i + j, by rw [hj, List.drop_drop]⟩
    have d2 : (two (L.drop i)).2.2.1 = L.drop (L.length - (two (L.drop i)).2.2.1.length) := by
      have hl := two_len (L.drop i)
      rw [List.length_drop] at hl
      refine hdr _ (by omega) ?_
      unfold two
      split
      · obtain ⟨j, hj⟩ := ones_drop ((ones (L.drop i)).2.1.drop 1)
        simp only
        rw [hj, d1, List.drop_drop, List.drop_drop]
        exact ⟨_, rfl⟩
      · exact ⟨_, d1⟩
    have l2 := two_len (L.drop i)
    rw [List.length_drop] at l2
    -- the two numbers
    have step : ∀ {σ : Type} (K : ((List (List UInt8)) × Unit × Int × Int × Bool × Int × Unit) × ((List Pr) × Unit) → Option σ),
        (Option.bind (cond (((decide ((0:Int) ≤ ((L.length - (ones (L.drop i)).2.1.length : Nat) : Int))) && (decide (((L.length - (ones (L.drop i)).2.1.length : Nat) : Int) < ((L.length : Nat) : Int)))) || (!((ones (L.drop i)).2.2 && (decide (((L.length - (ones (L.drop i)).2.1.length : Nat) : Int) < ((L.length : Nat) : Int))))))
          (cond (((ones (L.drop i)).2.2 && (decide (((L.length - (ones (L.drop i)).2.1.length : Nat) : Int) < ((L.length : Nat) : Int)))) && (decide ((List.getD L (Int.toNat ((L.length - (ones (L.drop i)).2.1.length : Nat) : Int)) ([]:List UInt8)) = ([58]:List UInt8))))
            (Option.bind (F23 ((L, (w64 (((L.length - (ones (L.drop i)).2.1.length : Nat) : Int) + (1:Int))), ()), ())) fun r2 => (some ((L, (), (ones (L.drop i)).1, r2.1.2.1, r2.1.2.2.1, r2.1.1, ()), (out, ()))))
            (some ((L, (), (ones (L.drop i)).1, ((L.length - (ones (L.drop i)).2.1.length : Nat) : Int), (ones (L.drop i)).2.2, (ones (L.drop i)).1, ()), (out, ())))) none) K)
        = K ((L, (), (two (L.drop i)).1, ((L.length - (two (L.drop i)).2.2.1.length : Nat) : Int), (two (L.drop i)).2.2.2, (two (L.drop i)).2.1, ()), (out, ())) := by
      intro σ K
      generalize ho1 : ones (L.drop i) = o at *
      have hlt : decide (((L.length - o.2.1.length : Nat) : Int) < ((L.length : Nat) : Int)) = decide (o.2.1 ≠ []) := by
        rw [decide_eq_decide, ne_eq, ← List.length_eq_zero_iff]; omega
      have hget : L.getD (L.length - o.2.1.length) [] = o.2.1.getD 0 [] := by
        conv => rhs; rw [d1]
        rw [List.getD_eq_getElem?_getD, List.getD_eq_getElem?_getD, List.getElem?_drop, Nat.add_zero]
      have c1 : ((true && decide (o.2.1 ≠ [])) || !(o.2.2 && decide (o.2.1 ≠ []))) = true := by
        cases o.2.2 <;> cases decide (o.2.1 ≠ []) <;> rfl
      unfold two
      rw [ho1]
      simp only [hlt, nat_nn, c1, cond_true, Int.toNat_natCast, hget]
      by_cases hc : o.2.2 = true ∧ o.2.1 ≠ [] ∧ o.2.1.getD 0 [] = [58]
      · rw [if_pos hc]
        have hpos : 0 < o.2.1.length := List.length_pos_iff.mpr hc.2.1
        have e2 := F23_eq L (L.length - o.2.1.length + 1) hL (by omega)
        have hdd : L.drop (L.length - o.2.1.length + 1) = o.2.1.drop 1 := by
          conv => rhs; rw [d1]
          rw [List.drop_drop]
        rw [hdd] at e2
        rw [hc.1, decide_eq_true hc.2.1, decide_eq_true hc.2.2, w64_nat (show L.length - o.2.1.length < 9223372036854775807 by omega), e2]
        simp only [Bool.and_self, cond_true, Option.bind_some]
      · rw [if_neg hc]
        have : (o.2.2 && decide (o.2.1 ≠ []) && decide (o.2.1.getD 0 [] = [58])) = false := by
          rw [← Bool.not_eq_true, Bool.and_eq_true, Bool.and_eq_true, decide_eq_true_eq, decide_eq_true_eq, and_assoc]; exact hc
        rw [this]
        simp only [cond_false, Option.bind_some]
    simp only [iter, B13_0, e1, Option.bind_some]
    rw [step]
    simp only [prs]
    generalize ht : two (L.drop i) = t at *
    have heq : decide (((L.length - t.2.2.1.length : Nat) : Int) = ((L.length : Nat) : Int)) = decide (t.2.2.1 = []) := by
      rw [decide_eq_decide, ← List.length_eq_zero_iff]; omega
    have hlt : decide (((L.length - t.2.2.1.length : Nat) : Int) < ((L.length : Nat) : Int)) = decide (t.2.2.1 ≠ []) := by
      rw [decide_eq_decide, ne_eq, ← List.length_eq_zero_iff]; omega
    have hget : L.getD (L.length - t.2.2.1.length) [] = t.2.2.1.getD 0 [] := by
      conv => rhs; rw [d2]
      rw [List.getD_eq_getElem?_getD, List.getD_eq_getElem?_getD, List.getElem?_drop, Nat.add_zero]
    have hby : bytesOK (out.length + 1) 16 = true := bytes_ok (by omega)
    have c1 : ((true && decide (t.2.2.1 ≠ [])) || !(decide (t.2.2.1 ≠ []) && !(!t.2.2.2))) = true := by
      cases t.2.2.2 <;> cases decide (t.2.2.1 ≠ []) <;> rfl
    simp only [heq, hlt, nat_nn, c1, Int.toNat_natCast, hget, Option.bind_some, List.length_cons, List.length_nil, Nat.zero_add, hby, cond_true]
    by_cases h1 : t.2.2.2 = false ∧ t.2.2.1 = []
    · rw [if_pos h1]
      simp only [h1.1, h1.2, decide_true, Bool.not_false, Bool.and_self, cond_true, List.length_nil, Nat.sub_zero]
    · rw [if_neg h1]
      have h1' : (!t.2.2.2 && decide (t.2.2.1 = [])) = false := by
        rw [← Bool.not_eq_true, Bool.and_eq_true, Bool.not_eq_true', decide_eq_true_eq]; exact h1
      simp only [h1', cond_false]
      by_cases h2 : t.2.2.2 = false ∨ (t.2.2.1 ≠ [] ∧ t.2.2.1.getD 0 [] ≠ [44])
      · rw [if_pos h2]
        have h2' : (!t.2.2.2 || (decide (t.2.2.1 ≠ []) && !decide (t.2.2.1.getD 0 [] = [44]))) = true := by
          rw [Bool.or_eq_true, Bool.and_eq_true, Bool.not_eq_true', Bool.not_eq_true', decide_eq_true_eq, decide_eq_false_iff_not]; exact h2
        simp only [h2', cond_true]
      · rw [if_neg h2]
        have h2' : (!t.2.2.2 || (decide (t.2.2.1 ≠ []) && !decide (t.2.2.1.getD 0 [] = [44]))) = false := by
          rw [← Bool.not_eq_true, Bool.or_eq_true, Bool.and_eq_true, Bool.not_eq_true', Bool.not_eq_true', decide_eq_true_eq, decide_eq_false_iff_not]; exact h2
        simp only [h2', cond_false]
        by_cases h3 : t.2.2.1 = []
        · rw [if_pos h3, decide_eq_true h3]
          simp only [cond_true]
        · rw [if_neg h3, decide_eq_false h3]
          have hpos : 0 < t.2.2.1.length := List.length_pos_iff.mpr h3
          simp only [cond_false, w64_nat (show L.length - t.2.2.1.length < 9223372036854775807 by omega)]
          have hdd : L.drop (L.length - t.2.2.1.length + 1) = t.2.2.1.drop 1 := by
            conv => rhs; rw [d2]
            rw [List.drop_drop]
          rw [← hdd]
          exact L13_iter L hL k m _ _ (by omega) (by omega) (by omega) (by simp only [List.length_append, List.length_cons, List.length_nil]; omega)

theorem F13_eq (L : Ls) (hL : L.length ≤ 1100000) : F13 ((L, ()), ()) = some (((prs L.length (L.length + 1) L []).2.1, (prs L.length (L.length + 1) L []).1.2.1, (prs L.length (L.length + 1) L []).1.2.2.1, ()), ()) := by
  have h := L13_iter L hL FUEL (L.length + 1) 0 [] (Nat.zero_le _) (by unfold FUEL; omega) (by omega) (Nat.le_refl _)
  rw [List.drop_zero] at h
  have h' : L13_0 ((L, (), (0:Int), ()), ([], ())) = _ := h
  simp only [F13, h', Option.bind_some]

end Go.Bd
