/- A set is read as the reference reads it. -/
import Derived.Test.YtbnmcdcpendjjaaDoorBd5
namespace Go.Bd
open Go Go.Ev
set_option maxRecDepth 100000

theorem is_byte {c : List UInt8} {v : Int} (h : Is c v) (k : UInt8) (hk : k.toNat < 128) : c = [k] ↔ v = (k.toNat : Int) := by
  rcases h with ⟨b, rfl, hb, rfl⟩ | ⟨h1, h2⟩
  · constructor
    · intro e; injection e with e; rw [e]
    · intro e
      have : b = k := UInt8.toNat_inj.mp (by omega)
      rw [this]
  · constructor
    · intro e; have := h1 k e; omega
    · intro e; omega

theorem is_dig {c : List UInt8} {v : Int} (h : Is c v) (n : Int) : dig n v = if isd c then (if 10 * n + (((c.getD 0 0).toNat : Int) - 48) = 0 ∨ 4294967295 < 10 * n + (((c.getD 0 0).toNat : Int) - 48) then none else some (10 * n + (((c.getD 0 0).toNat : Int) - 48))) else none := by
  rcases h with ⟨b, rfl, hb, rfl⟩ | ⟨h1, h2⟩
  · have e : ([b] : List UInt8).getD 0 0 = b := rfl
    have e2 : isd [b] = (decide (48 ≤ b.toNat) && decide (b.toNat ≤ 57)) := by simp [isd]
    rw [e, e2]
    unfold dig
    by_cases hd : 48 ≤ b.toNat ∧ b.toNat ≤ 57
    · rw [if_neg (show ¬ ((b.toNat : Int) < 48 ∨ 57 < (b.toNat : Int)) by omega), if_pos (show (decide (48 ≤ b.toNat) && decide (b.toNat ≤ 57)) = true by simp [hd])]
    · rw [if_pos (show ((b.toNat : Int) < 48 ∨ 57 < (b.toNat : Int)) by omega), if_neg (show ¬ (decide (48 ≤ b.toNat) && decide (b.toNat ≤ 57)) = true by simp; omega)]
  · have : isd c = false := by
      unfold isd
      by_cases hl : c.length = 1
      · obtain ⟨b, rfl⟩ := List.length_eq_one_iff.mp hl
        have := h1 b rfl
        have e : ([b] : List UInt8).getD 0 0 = b := rfl
        rw [e]
        simp; omega
      · simp [hl]
    rw [this]
    unfold dig
    rw [if_pos (by omega)]
    rfl

theorem all2_nil {vs : List Int} (h : All2 [] vs) : vs = [] := by cases h; rfl
theorem all2_cons {c : List UInt8} {t : Ls} {vs : List Int} (h : All2 (c :: t) vs) : ∃ v u, vs = v :: u ∧ Is c v ∧ All2 t u := by
  cases h with
  | cons h1 h2 => exact ⟨_, _, rfl, h1, h2⟩

theorem isd_not {c : List UInt8} {v : Int} (h : Is c v) (hd : isd c = true) : v ≠ 44 ∧ v ≠ 58 ∧ v ≠ 42 := by
  have := is_dig h 1
  rw [hd] at this
  unfold dig at this
  rcases h with ⟨b, rfl, hb, rfl⟩ | ⟨h1, h2⟩
  · unfold isd at hd
    rw [Bool.and_eq_true, Bool.and_eq_true, decide_eq_true_eq, decide_eq_true_eq, decide_eq_true_eq] at hd
    have e : ([b] : List UInt8).getD 0 0 = b := rfl
    rw [e] at hd
    omega
  · omega

abbrev bad (x : Nat) : R5 := .inr (((), (x : Int), (), ()), ([], ()))

/-- digits -/
theorem run_digs (most : Int) (sr : Bool) (ps : List Pr) (st : Int) (hst : st = 1 ∨ st = 4) : ∀ (r : Ls) (vs : List Int) (n : Int) (pl : Nat), All2 r vs → 0 ≤ n → n ≤ 4294967295 →
    (∀ p, digs n r = .inl p → ∃ vs', All2 p.2 vs' ∧ runA most (st, n, sr, ps) pl vs = runA most (st, p.1, sr, ps) (pl + (r.length - p.2.length)) vs' ∧ p.2.length ≤ r.length ∧ 0 ≤ p.1 ∧ p.1 ≤ 4294967295 ∧ n ≤ p.1 ∧ (p.2 = [] ∨ isd (p.2.getD 0 []) = false)) ∧
    (∀ t, digs n r = .inr t → runA most (st, n, sr, ps) pl vs = bad (pl + (r.length - t.length)) ∧ t.length ≤ r.length ∧ t ≠ [])
  | [], vs, n, pl, ha, h0, h1 => by
    rw [all2_nil ha]
    refine ⟨fun p hp => ?_, fun t ht => by cases ht⟩
    injection hp with hp
    subst hp
    exact ⟨[], .nil, by simp, Nat.le_refl _, h0, h1, Int.le_refl _, .inl rfl⟩
  | c :: r, vs, n, pl, ha, h0, h1 => by
    obtain ⟨v, u, rfl, hi, hu⟩ := all2_cons ha
    have hd := is_dig hi n
    simp only [digs]
    by_cases hc : isd c = true
    · rw [if_pos hc] at hd
      obtain ⟨n1, n2, n3⟩ := isd_not hi hc
      rw [if_pos hc]
      by_cases hb : 10 * n + (((c.getD 0 0).toNat : Int) - 48) = 0 ∨ 4294967295 < 10 * n + (((c.getD 0 0).toNat : Int) - 48)
      · rw [if_pos hb] at hd
        rw [if_pos hb]
        refine ⟨fun p hp => (by cases hp), fun t ht => ?_⟩
        injection ht with ht
        subst ht
        refine ⟨?_, Nat.le_refl _, by simp⟩
        have : tk most (st, n, sr, ps) v = none := by
          unfold tk
          rw [if_neg (by simp only; omega)]
          simp only [hd]
          rw [if_pos (by omega)]
          simp only
          rw [if_neg (by omega), if_neg (by omega)]
        simp only [runA, this, Nat.sub_self, Nat.add_zero]
      · rw [if_neg hb] at hd
        rw [if_neg hb]
        have ht : tk most (st, n, sr, ps) v = some (st, 10 * n + (((c.getD 0 0).toNat : Int) - 48), sr, ps) := by
          unfold tk
          rw [if_neg (by simp only; omega)]
          simp only [hd]
          rw [if_pos (by omega)]
          simp only
          rcases hst with rfl | rfl <;> rfl
        have hge : 48 ≤ (c.getD 0 0).toNat := by
          unfold isd at hc
          rw [Bool.and_eq_true, Bool.and_eq_true, decide_eq_true_eq, decide_eq_true_eq, decide_eq_true_eq] at hc
          exact hc.1.2
        obtain ⟨g1, g2⟩ := run_digs most sr ps st hst r u (10 * n + (((c.getD 0 0).toNat : Int) - 48)) (pl + 1) hu (by omega) (by omega)
        refine ⟨fun p hp => ?_, fun t ht' => ?_⟩
        · obtain ⟨vs', q1, q2, q3, q4, q5, q6, q7⟩ := g1 p hp
          refine ⟨vs', q1, ?_, by simp only [List.length_cons]; omega, q4, q5, by omega, q7⟩
          simp only [runA, ht, q2, List.length_cons]
          rw [show pl + 1 + (r.length - p.2.length) = pl + (r.length + 1 - p.2.length) by omega]
        · obtain ⟨q1, q2, q3⟩ := g2 t ht'
          refine ⟨?_, by simp only [List.length_cons]; omega, q3⟩
          simp only [runA, ht, q1, List.length_cons]
          rw [show pl + 1 + (r.length - t.length) = pl + (r.length + 1 - t.length) by omega]
    · rw [if_neg hc]
      refine ⟨fun p hp => ?_, fun t ht => by cases ht⟩
      injection hp with hp
      subst hp
      exact ⟨v :: u, ha, by simp, Nat.le_refl _, h0, h1, Int.le_refl _, .inr (by simpa using hc)⟩

/-- a number, or a star, read from a part's begin or behind a colon -/
structure Num (most : Int) (st : Int) (sr : Bool) (ps : List Pr) (pl : Nat) (r : Ls) (vs : List Int) : Prop where
  yes : (ones r).2.2 = true → ∃ (st' n' : Int) (vs' : List Int), All2 (ones r).2.1 vs' ∧ runA most (st, 0, sr, ps) pl vs = runA most (st', n', sr || decide ((ones r).1 < 0), ps) (pl + (r.length - (ones r).2.1.length)) vs' ∧
    (ones r).2.1.length < r.length ∧ 0 ≤ n' ∧ n' ≤ 4294967295 ∧ ((st' = (if st = 3 then 5 else 2) ∧ (ones r).1 = -1) ∨ (st' = (if st = 3 then 4 else 1) ∧ n' = (ones r).1 ∧ ((ones r).2.1 = [] ∨ isd ((ones r).2.1.getD 0 []) = false)))
  no3 : (ones r).2.2 = false → (ones r).2.1 = [] → resB most (runA most (st, 0, sr, ps) pl vs) = ([], ((pl + r.length : Nat) : Int), 3, ())
  no4 : (ones r).2.2 = false → (ones r).2.1 ≠ [] → runA most (st, 0, sr, ps) pl vs = bad (pl + (r.length - (ones r).2.1.length))

theorem num (most : Int) (st : Int) (hst : st = 0 ∨ st = 3) (sr : Bool) (ps : List Pr) (pl : Nat) (r : Ls) (vs : List Int) (ha : All2 r vs) : Num most st sr ps pl r vs := by
  cases r with
  | nil =>
    have e : ones [] = (0, [], false) := rfl
    rw [all2_nil ha]
    refine ⟨fun h => (by rw [e] at h; cases h), fun _ _ => ?_, fun _ h => by rw [e] at h; exact absurd rfl h⟩
    simp only [runA, resB, List.length_nil, Nat.add_zero]
    rw [if_pos hst]
  | cons c t =>
    obtain ⟨v, u, rfl, hi, hu⟩ := all2_cons ha
    by_cases hs : c = star
    · have hv : v = 42 := (is_byte hi 42 (by decide)).mp hs
      have e : ones (c :: t) = (-1, t, true) := by
        unfold ones
        rw [if_pos ⟨by simp, hs⟩]
        rfl
      refine ⟨fun _ => ?_, fun h => (by rw [e] at h; cases h), fun h => (by rw [e] at h; cases h)⟩
      rw [e]
      refine ⟨if st = 3 then 5 else 2, 0, u, hu, ?_, by simp, Int.le_refl _, by omega, .inl ⟨rfl, rfl⟩⟩
      have ht : tk most (st, 0, sr, ps) v = some (if st = 3 then 5 else 2, 0, true, ps) := by
        unfold tk
        rw [if_pos ⟨hst, hv⟩]
      simp only [runA, ht, List.length_cons]
      rw [show pl + (t.length + 1 - t.length) = pl + 1 by omega]
      simp
    · have hv : v ≠ 42 := fun h => hs ((is_byte hi 42 (by decide)).mpr h)
      have hd := is_dig hi 0
      have e0 : ones (c :: t) = match digs 0 (c :: t) with
        | .inl p => (p.1, p.2, decide (p.2.length < (c :: t).length))
        | .inr t => (0, t, false) := by
        unfold ones
        rw [if_neg (fun h => hs h.2)]
        rfl
      by_cases hc : isd c = true
      · rw [if_pos hc] at hd
        obtain ⟨n1, n2, n3⟩ := isd_not hi hc
        have hge : 48 ≤ (c.getD 0 0).toNat := by
          unfold isd at hc
          rw [Bool.and_eq_true, Bool.and_eq_true, decide_eq_true_eq, decide_eq_true_eq, decide_eq_true_eq] at hc
          exact hc.1.2
        by_cases hb : 10 * (0 : Int) + (((c.getD 0 0).toNat : Int) - 48) = 0 ∨ 4294967295 < 10 * (0 : Int) + (((c.getD 0 0).toNat : Int) - 48)
        · rw [if_pos hb] at hd
          have e : ones (c :: t) = (0, c :: t, false) := by
            rw [e0]
            simp only [digs]
            rw [if_pos hc, if_pos hb]
          refine ⟨fun h => (by rw [e] at h; cases h), fun _ h => (by rw [e] at h; cases h), fun _ _ => ?_⟩
          rw [e]
          have ht : tk most (st, 0, sr, ps) v = none := by
            unfold tk
            rw [if_neg (by simp only; omega)]
            simp only [hd]
            rw [if_pos (by omega)]
            simp only
            rw [if_neg (by omega), if_neg (by omega)]
          simp only [runA, ht, Nat.sub_self, Nat.add_zero]
        · rw [if_neg hb] at hd
          have hdg : digs 0 (c :: t) = digs (10 * (0 : Int) + (((c.getD 0 0).toNat : Int) - 48)) t := by
            simp only [digs]
            rw [if_pos hc, if_neg hb]
          have hst' : (if st = 3 then 4 else 1 : Int) = 1 ∨ (if st = 3 then 4 else 1 : Int) = 4 := by split <;> simp
          obtain ⟨g1, g2⟩ := run_digs most sr ps (if st = 3 then 4 else 1) hst' t u (10 * (0 : Int) + (((c.getD 0 0).toNat : Int) - 48)) (pl + 1) hu (by omega) (by omega)
          have ht : tk most (st, 0, sr, ps) v = some (if st = 3 then 4 else 1, 10 * (0 : Int) + (((c.getD 0 0).toNat : Int) - 48), sr, ps) := by
            unfold tk
            rw [if_neg (by simp only; omega)]
            simp only [hd]
            rw [if_pos (by omega)]
            simp only
            rcases hst with rfl | rfl <;> rfl
          cases hx : digs 0 (c :: t) with
          | inl p =>
            have e : ones (c :: t) = (p.1, p.2, decide (p.2.length < (c :: t).length)) := by rw [e0, hx]
            rw [hdg] at hx
            obtain ⟨vs', q1, q2, q3, q4, q5, q6, q7⟩ := g1 p hx
            have hlt : p.2.length < (c :: t).length := by simp only [List.length_cons]; omega
            refine ⟨fun _ => ?_, fun h => ?_, fun h => ?_⟩
            · rw [e]
              refine ⟨if st = 3 then 4 else 1, p.1, vs', q1, ?_, hlt, q4, q5, .inr ⟨rfl, rfl, q7⟩⟩
              have hng : decide (p.1 < 0) = false := by rw [decide_eq_false_iff_not]; omega
              simp only [runA, ht, q2, hng, Bool.or_false, List.length_cons]
              rw [show pl + 1 + (t.length - p.2.length) = pl + (t.length + 1 - p.2.length) by omega]
            · rw [e] at h
              simp only at h
              rw [decide_eq_false_iff_not] at h
              exact absurd hlt h
            · rw [e] at h
              simp only at h
              rw [decide_eq_false_iff_not] at h
              exact absurd hlt h
          | inr x =>
            have e : ones (c :: t) = (0, x, false) := by rw [e0, hx]
            rw [hdg] at hx
            obtain ⟨q1, q2, q3⟩ := g2 x hx
            refine ⟨fun h => (by rw [e] at h; cases h), fun _ h => (by rw [e] at h; exact absurd h q3), fun _ _ => ?_⟩
            rw [e]
            simp only [runA, ht, q1, List.length_cons]
            rw [show pl + 1 + (t.length - x.length) = pl + (t.length + 1 - x.length) by omega]
      · rw [if_neg hc] at hd
        have e : ones (c :: t) = (0, c :: t, false) := by
          rw [e0]
          simp only [digs]
          rw [if_neg hc]
          simp
        refine ⟨fun h => (by rw [e] at h; cases h), fun _ h => (by rw [e] at h; cases h), fun _ _ => ?_⟩
        rw [e]
        have ht : tk most (st, 0, sr, ps) v = none := by
          unfold tk
          rw [if_neg (by simp only; omega)]
          simp only [hd]
          rw [if_pos (by omega)]
          simp only
          rw [if_neg (by omega), if_neg (by omega)]
        simp only [runA, ht, Nat.sub_self, Nat.add_zero]

/-- what the reference tells -/
def resR (most : Int) (x : R13) : List Pr × Int × Int × Unit :=
  if x.1.2.2.1 ≠ 0 then ([], x.1.2.1, x.1.2.2.1, ())
  else if 32 < x.2.1.length then ([], 0, 6, ())
  else if decide (most = 0) && x.2.1.any neg then ([], 0, 2, ())
  else (joined (x.2.1.map (subs most)), 0, 0, ())

theorem sub_neg {most : Int} : sub most (-1) = most := rfl
theorem sub_pos {most n : Int} (h : 0 ≤ n) : sub most n = n := by
  unfold sub; rw [if_neg (by omega)]

/-- behind a part's numbers -/
theorem part_end {most : Int} {st n : Int} {sr : Bool} {ps out : List Pr} {pl len m : Nat} {r : Ls} {vs : List Int}
    (ih : ∀ (t : Ls) (u : List Int) (out : List Pr) (pl : Nat), All2 t u → t.length < m → pl + t.length = len → resB most (runA most (0, 0, out.any neg, out.map (subs most)) pl u) = resR most (prs len m t out))
    (ha : All2 r vs) (hm : r.length ≤ m) (hl : pl + r.length = len) (hst : st = 1 ∨ st = 2 ∨ st = 4 ∨ st = 5) (hd : (st = 1 ∨ st = 4) → (r = [] ∨ isd (r.getD 0 []) = false))
    (h58 : (st = 1 ∨ st = 2) → (r = [] ∨ r.getD 0 [] ≠ [58])) (he : endR st n most ps = out.map (subs most)) (hsr : sr = out.any neg) :
    resB most (runA most (st, n, sr, ps) pl vs) = resR most (if r ≠ [] ∧ r.getD 0 [] ≠ [44] then (((), ((len - r.length : Nat) : Int), 4, ()), ([], ())) else if r = [] then (((), 0, 0, ()), (out, ())) else prs len m (r.drop 1) out) := by
  cases r with
  | nil =>
    rw [all2_nil ha, if_neg (fun h => h.1 rfl), if_pos rfl]
    simp only [runA, resB, resR]
    rw [if_neg (show ¬ (st = 0 ∨ st = 3) by omega), he, List.length_map, hsr, if_neg (show ¬ ((0:Int) ≠ 0) by omega), Bool.and_comm]
  | cons c t =>
    obtain ⟨v, u, rfl, hi, hu⟩ := all2_cons ha
    have hg : (c :: t).getD 0 [] = c := rfl
    have hdn : (if st ≠ 2 ∧ st ≠ 5 then dig n v else none) = none := by
      split
      · rcases hd (by omega) with h | h
        · cases h
        · rw [hg] at h
          rw [is_dig hi n, h]
          rfl
      · rfl
    by_cases hc : c = [44]
    · have hv : v = 44 := (is_byte hi 44 (by decide)).mp hc
      have ht : tk most (st, n, sr, ps) v = some (0, 0, sr, endR st n most ps) := by
        unfold tk
        rw [if_neg (by simp only; omega)]
        simp only [hdn]
        rw [if_pos (by omega)]
      rw [if_neg (fun h => h.2 hc), if_neg (by simp)]
      simp only [runA, ht, he]
      rw [hsr]
      exact ih t u out (pl + 1) hu (by simp only [List.length_cons] at hm; omega) (by simp only [List.length_cons] at hl; omega)
    · have hv : v ≠ 44 := fun h => hc ((is_byte hi 44 (by decide)).mpr h)
      have ht : tk most (st, n, sr, ps) v = none := by
        unfold tk
        rw [if_neg (by simp only; omega)]
        simp only [hdn]
        rw [if_neg (by omega)]
        by_cases h12 : st = 1 ∨ st = 2
        · rcases h58 h12 with h | h
          · cases h
          · rw [hg] at h
            have : v ≠ 58 := fun h' => h ((is_byte hi 58 (by decide)).mpr h')
            rw [if_neg (by omega)]
        · rw [if_neg (by omega)]
      rw [if_pos ⟨by simp, hc⟩]
      simp only [runA, ht, resB, resR]
      rw [if_pos (by omega), show len - (c :: t).length = pl by omega]

theorem same_set (most : Int) (len : Nat) : ∀ (m : Nat) (r : Ls) (vs : List Int) (out : List Pr) (pl : Nat), All2 r vs → r.length < m → pl + r.length = len →
    resB most (runA most (0, 0, out.any neg, out.map (subs most)) pl vs) = resR most (prs len m r out)
  | 0, _, _, _, _, _, h, _ => absurd h (Nat.not_lt_zero _)
  | m + 1, r, vs, out, pl, ha, hm, hl => by
    have N := num most 0 (.inl rfl) (out.any neg) (out.map (subs most)) pl r vs ha
    have hlen := ones_len r
    simp only [prs]
    cases hok : (ones r).2.2 with
    | false =>
      have e : two r = ((ones r).1, (ones r).1, (ones r).2.1, (ones r).2.2) := by
        unfold two
        rw [if_neg (fun h => by rw [hok] at h; cases h.1)]
      rw [e, hok]
      by_cases hn : (ones r).2.1 = []
      · rw [if_pos ⟨rfl, hn⟩, N.no3 hok hn, hl]
        rfl
      · rw [if_neg (fun h => hn h.2), if_pos (.inl rfl), N.no4 hok hn]
        simp only [resB, resR]
        rw [if_pos (by omega), show pl + (r.length - (ones r).2.1.length) = len - (ones r).2.1.length by omega]
    | true =>
      obtain ⟨st', n', vs', a1, a2, a3, a4, a5, a6⟩ := N.yes hok
      have hV : endV st' n' most = sub most (ones r).1 := by
        unfold endV
        rcases a6 with ⟨h1, h2⟩ | ⟨h1, h2, _⟩
        · rw [h2, sub_neg, if_pos (by simp at h1; omega)]
        · rw [h2] at a4
          rw [sub_pos a4, if_neg (by simp at h1; omega), h2]
      have hst' : st' = 1 ∨ st' = 2 := by
        rcases a6 with ⟨h1, _⟩ | ⟨h1, _⟩ <;> simp at h1 <;> omega
      rw [a2]
      by_cases hc : (ones r).2.1 ≠ [] ∧ (ones r).2.1.getD 0 [] = [58]
      · have e : two r = ((ones r).1, (ones ((ones r).2.1.drop 1)).1, (ones ((ones r).2.1.drop 1)).2.1, (ones ((ones r).2.1.drop 1)).2.2) := by
          unfold two
          rw [if_pos ⟨hok, hc⟩]
        rw [e]
        generalize ho : ones r = o at *
        obtain ⟨a, r1, ok1⟩ := o
        simp only at *
        cases r1 with
        | nil => exact absurd rfl hc.1
        | cons c t =>
          obtain ⟨v, u, rfl, hi, hu⟩ := all2_cons a1
          have hcc : c = [58] := hc.2
          have hv : v = 58 := (is_byte hi 58 (by decide)).mp hcc
          have hend : endR st' n' most (out.map (subs most)) = out.map (subs most) ++ [(sub most a, sub most a, ())] := by
            unfold endR
            rw [if_neg (by omega), hV]
          have hdn : (if st' ≠ 2 ∧ st' ≠ 5 then dig n' v else none) = none := by
            split
            · unfold dig; rw [if_pos (by omega)]
            · rfl
          have ht : tk most (st', n', out.any neg || decide (a < 0), out.map (subs most)) v = some (3, 0, out.any neg || decide (a < 0), out.map (subs most) ++ [(sub most a, sub most a, ())]) := by
            unfold tk
            rw [if_neg (by simp only; omega)]
            simp only [hdn]
            rw [if_neg (by omega), if_pos ⟨hst', hv⟩, hend]
          simp only [runA, ht, List.drop_succ_cons, List.drop_zero]
          simp only [List.length_cons] at a3 hlen
          have N2 := num most 3 (.inr rfl) (out.any neg || decide (a < 0)) (out.map (subs most) ++ [(sub most a, sub most a, ())]) (pl + (r.length - (t.length + 1)) + 1) t u hu
          have hlen2 := ones_len t
          have hpl : pl + (r.length - (t.length + 1)) + 1 + t.length = len := by omega
          rw [show (c :: t).length = t.length + 1 from rfl]
          cases hok2 : (ones t).2.2 with
          | false =>
            by_cases hn : (ones t).2.1 = []
            · rw [if_pos ⟨rfl, hn⟩, N2.no3 hok2 hn, hpl]
              rfl
            · rw [if_neg (fun h => hn h.2), if_pos (.inl rfl), N2.no4 hok2 hn]
              simp only [resB, resR]
              rw [if_pos (by omega), show pl + (r.length - (t.length + 1)) + 1 + (t.length - (ones t).2.1.length) = len - (ones t).2.1.length by omega]
          | true =>
            obtain ⟨st2, n2, vs2, b1, b2, b3, b4, b5, b6⟩ := N2.yes hok2
            have hV2 : endV st2 n2 most = sub most (ones t).1 := by
              unfold endV
              rcases b6 with ⟨h1, h2⟩ | ⟨h1, h2, _⟩
              · rw [h2, sub_neg, if_pos (by simp at h1; omega)]
              · rw [h2] at b4
                rw [sub_pos b4, if_neg (by simp at h1; omega), h2]
            have hst2 : st2 = 4 ∨ st2 = 5 := by
              rcases b6 with ⟨h1, _⟩ | ⟨h1, _⟩ <;> simp at h1 <;> omega
            rw [b2, if_neg (fun h => by cases h.1)]
            have hor : ∀ (P : Prop), (true = false ∨ P) = P := fun P => by simp
            simp only [hor]
            refine part_end (out := out ++ [(a, (ones t).1, ())]) (same_set most len m) b1 (by omega) (by omega) (by omega) (fun h => ?_) (fun h => by omega) ?_ ?_
            · rcases b6 with ⟨h1, _⟩ | ⟨_, _, h3⟩
              · simp at h1; omega
              · exact h3
            · unfold endR
              rw [if_pos hst2, hV2]
              have e1 : (out.map (subs most) ++ [(sub most a, sub most a, ())]).length - 1 = (out.map (subs most)).length := by simp
              rw [e1, last_get, last_set, List.map_append]
              rfl
            · rw [List.any_append, Bool.or_assoc]
              simp [neg]
      · have e : two r = ((ones r).1, (ones r).1, (ones r).2.1, (ones r).2.2) := by
          unfold two
          rw [if_neg (fun h => hc h.2)]
        rw [e, hok, if_neg (fun h => by cases h.1)]
        have hor : ∀ (P : Prop), (true = false ∨ P) = P := fun P => by simp
        simp only [hor]
        refine part_end (out := out ++ [((ones r).1, (ones r).1, ())]) (same_set most len m) a1 (by omega) (by omega) (by omega) (fun h => ?_) (fun h => ?_) ?_ ?_
        · rcases a6 with ⟨h1, _⟩ | ⟨_, _, h3⟩
          · simp at h1; omega
          · exact h3
        · by_cases hn : (ones r).2.1 = []
          · exact .inl hn
          · exact .inr fun h => hc ⟨hn, h⟩
        · unfold endR
          rw [if_neg (by omega), hV, List.map_append]
          rfl
        · rw [List.any_append]
          simp [neg]

/-! the reference's set -/
theorem digs_val : ∀ (r : Ls) (n : Int) (p : Int × Ls), 0 ≤ n → n ≤ 4294967295 → digs n r = .inl p → 0 ≤ p.1 ∧ p.1 ≤ 4294967295
  | [], n, p, h0, h1, h => by
    injection h with h; subst h; exact ⟨h0, h1⟩
  | c :: t, n, p, h0, h1, h => by
    simp only [digs] at h
    by_cases hc : isd c = true
    · rw [if_pos hc] at h
      by_cases hb : 10 * n + (((c.getD 0 0).toNat : Int) - 48) = 0 ∨ 4294967295 < 10 * n + (((c.getD 0 0).toNat : Int) - 48)
      · rw [if_pos hb] at h; cases h
      · rw [if_neg hb] at h
        have hge : 48 ≤ (c.getD 0 0).toNat := by
          unfold isd at hc
          rw [Bool.and_eq_true, Bool.and_eq_true, decide_eq_true_eq, decide_eq_true_eq, decide_eq_true_eq] at hc
          exact hc.1.2
        exact digs_val t _ p (by omega) (by omega) h
    · rw [if_neg hc] at h
      injection h with h; subst h; exact ⟨h0, h1⟩

theorem ones_val (r : Ls) : (ones r).1 ≤ 4294967295 := by
  unfold ones
  split
  · simp only; omega
  · cases hd : digs 0 r with
    | inl p => exact (digs_val r 0 p (Int.le_refl _) (by omega) hd).2
    | inr p => simp only; omega

theorem two_val (r : Ls) : (two r).1 ≤ 4294967295 ∧ (two r).2.1 ≤ 4294967295 := by
  unfold two
  split
  · exact ⟨ones_val _, ones_val _⟩
  · exact ⟨ones_val _, ones_val _⟩

theorem prs_val (len : Nat) : ∀ (m : Nat) (r : Ls) (out : List Pr), (∀ p ∈ out, p.1 ≤ 4294967295 ∧ p.2.1 ≤ 4294967295) → ∀ p ∈ (prs len m r out).2.1, p.1 ≤ 4294967295 ∧ p.2.1 ≤ 4294967295
  | 0, _, _, _ => fun p h => by cases h
  | m + 1, r, out, ho => by
    have hv := two_val r
    have ho' : ∀ p ∈ out ++ [((two r).1, (two r).2.1, ())], p.1 ≤ 4294967295 ∧ p.2.1 ≤ 4294967295 := fun p hp => by
      rcases List.mem_append.mp hp with h | h
      · exact ho p h
      · rw [List.mem_singleton.mp h]; exact hv
    simp only [prs]
    split
    · exact fun p h => by cases h
    · split
      · exact fun p h => by cases h
      · split
        · exact ho'
        · exact prs_val len m _ _ ho'

theorem F6_eq (s : List UInt8) (most : Int) (hs : s.length ≤ 1100000) : F6 ((s, most, ()), ()) = some (if most < 0 ∨ 4294967295 < most then ([], 0, 2, ()) else resR most (prs (lets s.length s).length ((lets s.length s).length + 1) (lets s.length s) []), ()) := by
  by_cases hm : most < 0 ∨ 4294967295 < most
  · have : (decide (most < 0) || decide (4294967295 < most)) = true := by simpa using hm
    simp only [F6, this, cond_true, hm, ↓reduceIte]
  · have hm1 : (decide (most < 0) || decide (4294967295 < most)) = false := by
      rw [Bool.or_eq_false_iff, decide_eq_false_iff_not, decide_eq_false_iff_not]; omega
    have hm2 : 0 ≤ most ∧ most ≤ 4294967295 := by omega
    have hll := lets_len s.length s
    have e13 := F13_eq (lets s.length s) (by omega)
    have hv := prs_val (lets s.length s).length ((lets s.length s).length + 1) (lets s.length s) [] (fun p h => by cases h)
    simp only [F6, hm1, cond_false, hm, ↓reduceIte, F14_eq hs, Option.bind_some]
    rw [e13]
    generalize prs (lets s.length s).length ((lets s.length s).length + 1) (lets s.length s) [] = x at *
    obtain ⟨⟨u1, place, code, u2⟩, out, u3⟩ := x
    simp only at hv
    simp only [Option.bind_some, resR]
    by_cases hc : code = 0
    · subst hc
      simp only [decide_true, Bool.not_true, cond_false, ne_eq, not_true_eq_false, ↓reduceIte]
      by_cases h32 : 32 < out.length
      · have : (32 : Int) < (out.length : Int) := by omega
        simp only [h32, this, decide_true, cond_true, ↓reduceIte]
      · have : ¬ (32 : Int) < (out.length : Int) := by omega
        have e6 := L6a_eq most out (by omega) hm2 hv
        rw [fold6] at e6
        simp only [h32, this, decide_false, cond_false, ↓reduceIte, e6, Option.bind_some]
        cases hb : (decide (most = 0) && out.any neg)
        · simp only [Option.bind_some, Bool.false_eq_true, ↓reduceIte, joined, List.map_map]
          rfl
        · simp only [Option.bind_some, ↓reduceIte]
    · simp only [hc, decide_false, Bool.not_false, cond_true, ne_eq, not_false_eq_true, ↓reduceIte]

/-- a set -/
def set (s : List UInt8) (most : Int) : List Pr × Int × Int × Unit :=
  if most < 0 ∨ 4294967295 < most then ([], 0, 2, ()) else resR most (prs (lets s.length s).length ((lets s.length s).length + 1) (lets s.length s) [])

theorem F5_set (s : List UInt8) (most : Int) (hs : s.length ≤ 1100000) : F5 ((s, most, ()), ()) = some (set s most, ()) := by
  rw [F5_eq s most hs]
  unfold set
  by_cases hm : most < 0 ∨ 4294967295 < most
  · rw [if_pos hm, if_pos hm]
  · rw [if_neg hm, if_neg hm, ← same_set most (lets s.length s).length _ _ (runes s.length s) [] 0 (lets_runes _ _) (Nat.lt_succ_self _) (Nat.zero_add _)]
    rfl

theorem F6_set (s : List UInt8) (most : Int) (hs : s.length ≤ 1100000) : F6 ((s, most, ()), ()) = some (set s most, ()) := F6_eq s most hs

end Go.Bd
