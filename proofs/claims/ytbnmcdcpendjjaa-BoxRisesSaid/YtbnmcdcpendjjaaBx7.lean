/- Boxes: the laws BoxFlags and BoxRises. -/
import Derived.Test.YtbnmcdcpendjjaaBx6
namespace Go.Bx
open Go Go.Ev
set_option maxRecDepth 100000

theorem flag_bad {b : Box} {uid how : Int} {f : UInt8} (h : (flag b uid how f).2.1 ≠ 0) : (flag b uid how f).1 = empty := by
  unfold flag at *
  split
  · rfl
  · split
    · rfl
    · split
      · rename_i h1 h2 h3
        rw [if_neg h1, if_neg h2, if_pos h3] at h
        exact absurd rfl h
      · rfl

def laid (b : Box) (uid how : Int) (f : UInt8) : Box := (b.1, b.2.1, b.2.2.1, b.2.2.2.1.map (relay uid how f), ())

theorem flag_good {b : Box} {uid how : Int} {f : UInt8} (h : (flag b uid how f).2.1 = 0) : Right b ∧ 0 ≤ how ∧ how ≤ 2 ∧ f.toNat < 32 ∧ has b.2.2.2.1 uid = true ∧ flag b uid how f = (laid b uid how f, 0, ()) := by
  unfold flag at *
  by_cases h1 : check b ≠ 0
  · rw [if_pos h1] at h
    exact absurd h h1
  · rw [if_neg h1] at h ⊢
    by_cases h2 : how < 0 ∨ 2 < how ∨ 32 ≤ f.toNat
    · rw [if_pos h2] at h
      cases h
    · rw [if_neg h2] at h ⊢
      by_cases h3 : has b.2.2.2.1 uid = true
      · rw [if_pos h3]
        exact ⟨check_zero.mp (Classical.not_not.mp h1), by omega, by omega, by omega, h3, rfl⟩
      · rw [if_neg h3] at h
        cases h

theorem flag_of {b : Box} {uid how : Int} {f : UInt8} (R : Right b) (h1 : 0 ≤ how) (h2 : how ≤ 2) (h3 : f.toNat < 32) (h4 : has b.2.2.2.1 uid = true) : flag b uid how f = (laid b uid how f, 0, ()) := by
  unfold flag
  rw [if_neg (not_not_intro (check_zero.mpr R)), if_neg (by omega), if_pos h4]
  rfl

theorem lay_all : ((List.range 32).all fun x => (List.range 32).all fun y => (List.range 3).all fun k =>
    decide ((lay k (UInt8.ofNat x) (UInt8.ofNat y)).toNat < 32) && decide (lay k (lay k (UInt8.ofNat x) (UInt8.ofNat y)) (UInt8.ofNat y) = lay k (UInt8.ofNat x) (UInt8.ofNat y)) && decide (lay 2 (lay 1 (UInt8.ofNat x) (UInt8.ofNat y)) (UInt8.ofNat y) = lay 2 (UInt8.ofNat x) (UInt8.ofNat y))) = true := by kernel_rfl

theorem lay_eq {how : Int} {was f : UInt8} (h1 : 0 ≤ how) (h2 : how ≤ 2) (hw : was.toNat < 32) (hf : f.toNat < 32) :
    (lay how was f).toNat < 32 ∧ lay how (lay how was f) f = lay how was f ∧ lay 2 (lay 1 was f) f = lay 2 was f := by
  have h := List.all_eq_true.mp (List.all_eq_true.mp (List.all_eq_true.mp lay_all was.toNat (List.mem_range.mpr hw)) f.toNat (List.mem_range.mpr hf)) how.toNat (List.mem_range.mpr (by omega))
  rw [UInt8.ofNat_toNat, UInt8.ofNat_toNat, Bool.and_eq_true, Bool.and_eq_true, decide_eq_true_eq, decide_eq_true_eq, decide_eq_true_eq] at h
  rw [show ((how.toNat : Nat) : Int) = how by omega] at h
  exact ⟨h.1.1, h.1.2, h.2⟩

theorem relay_1 (uid how : Int) (f : UInt8) (a : Ltr) : (relay uid how f a).1 = a.1 := by
  unfold relay; split <;> rfl
theorem relay_3 (uid how : Int) (f : UInt8) (a : Ltr) : (relay uid how f a).2.2.1 = a.2.2.1 := by
  unfold relay; split <;> rfl

theorem laid_right {b : Box} {uid how : Int} {f : UInt8} (R : Right b) (h1 : 0 ≤ how) (h2 : how ≤ 2) (h3 : f.toNat < 32) : Right (laid b uid how f) where
  valid := R.valid
  next := R.next
  few := by
    simp only [laid, List.length_map]; exact R.few
  each := fun l hl => by
    simp only [laid] at hl ⊢
    obtain ⟨a, ha, rfl⟩ := List.mem_map.mp hl
    have q := R.each a ha
    rw [relay_1, relay_3]
    refine ⟨q.1, q.2.1, ?_, q.2.2.2⟩
    unfold relay
    split
    · exact (lay_eq h1 h2 q.2.2.1 h3).1
    · exact q.2.2.1
  rise := by
    simp only [laid]
    rw [List.pairwise_map]
    simp only [relay_1]
    exact R.rise

theorem laid_has (b : Box) (uid how : Int) (f : UInt8) : has (laid b uid how f).2.2.2.1 uid = has b.2.2.2.1 uid := by
  simp only [laid, has, List.any_map]
  congr 1
  funext a
  simp only [Function.comp_apply, relay_1]

theorem laid_twice {b : Box} {uid how k1 k2 : Int} {f : UInt8} (R : Right b) (h : ∀ w : UInt8, w.toNat < 32 → lay k1 (lay how w f) f = lay k2 w f) : laid (laid b uid how f) uid k1 f = laid b uid k2 f := by
  simp only [laid, List.map_map]
  refine congrArg (fun l => (b.1, b.2.1, b.2.2.1, l, ())) (List.map_congr_left fun a ha => ?_)
  have q := h a.2.1 (R.each a ha).2.2.1
  simp only [Function.comp_apply, relay]
  by_cases hu : a.1 = uid
  · simp only [hu, ↓reduceIte, q]
  · simp only [hu, ↓reduceIte]

theorem L6_eq (b : Box) (uid how : Int) (f : UInt8) (hl : b.2.2.2.1.length ≤ 32) :
    L6_0 (((), (), (), (0:Int), ()), (b, (uid, how, f, ()), laid b uid how f, ())) = some (.inl ((), ())) := by
  obtain ⟨nm, v, n, ls, u⟩ := b
  cases u
  have hF := FUEL_big
  change ls.length ≤ 32 at hl
  have h := walk_list (f := B6_0) (fun (_ : Unit) i => (((), (), (), (i : Int), ()), ((nm, v, n, ls, ()), (uid, how, f, ()), (nm, v, n, ls.map (relay uid how f), ()), ()))) ls (fun _ _ => .inl ()) (fun _ => .inl ((), ())) (b := ()) (fun b i a hi ha => by
      have hg : ∀ d, (ls.map (relay uid how f)).getD i d = relay uid how f a := fun d => by
        have e := ha nol
        rw [List.getD_eq_getElem?_getD, List.getElem?_eq_getElem hi] at e
        rw [List.getD_eq_getElem?_getD, List.getElem?_map, List.getElem?_eq_getElem hi, ← e]
        rfl
      have hr : (!decide (a.1 = uid) && !decide ((relay uid how f a).2.1 = a.2.1)) = false := by
        unfold relay
        by_cases h : a.1 = uid <;> simp [h]
      simp only [B6_0, nat_lt, nat_nn, List.length_map, hi, decide_true, Bool.and_true, Bool.true_or, cond_true, Int.toNat_natCast, ha, hg, relay_1, relay_3, Bool.not_true, Bool.or_self, Bool.false_or, hr, cond_false, w64_nat (show i < 9223372036854775807 by omega)])
    (fun b => by simp only [B6_0, Int.lt_irrefl, decide_false, cond_false]) (by omega)
  rw [foldS_const] at h
  exact h

theorem law6 (b : Box) (uid how : Int) (f : UInt8) : F6 ((b, (uid, how, f, ()), ()), ()) = some (true, ()) := by
  have e20 := F20_eq
  have hm : maxLen = 9223372036854775807 := rfl
  by_cases h : (flag b uid how f).2.1 = 0
  · obtain ⟨R, h1, h2, h3, h4, hf⟩ := flag_good h
    have q1 := e20 b uid how f
    rw [hf] at q1
    have R1 := laid_right (uid := uid) R h1 h2 h3
    have g1 := laid_has b uid how f
    rw [h4] at g1
    have f2 := flag_of R1 h1 h2 h3 g1
    rw [laid_twice R (fun w hw => (lay_eq h1 h2 hw h3).2.1)] at f2
    have q2 := e20 (laid b uid how f) uid how f
    rw [f2] at q2
    have q3 := e20 (laid b uid how f) uid 1 f
    rw [flag_of R1 (by omega) (by omega) h3 g1] at q3
    have q4 := e20 (laid (laid b uid how f) uid 1 f) uid 2 f
    have g2 := laid_has (laid b uid how f) uid 1 f
    rw [g1] at g2
    rw [flag_of (laid_right R1 (by omega) (by omega) h3) (by omega) (by omega) h3 g2, laid_twice R1 (fun w hw => (lay_eq (how := 1) (by omega) (by omega) hw h3).2.2)] at q4
    have q5 := e20 (laid b uid how f) uid 2 f
    rw [flag_of R1 (by omega) (by omega) h3 g1] at q5
    have s1 := F13_self (laid b uid how f) (by have := R1.few; omega)
    have s2 := F13_self (laid (laid b uid how f) uid 2 f) (by have := (laid_right (uid := uid) (how := 2) R1 (by omega) (by omega) h3).few; omega)
    have l6 := L6_eq b uid how f R.few
    have hlen : (laid b uid how f).2.2.2.1.length = b.2.2.2.1.length := by simp only [laid, List.length_map]
    generalize laid (laid b uid how f) uid 1 f = m at *
    generalize laid (laid b uid how f) uid 2 f = o at *
    generalize laid b uid how f = c at *
    obtain ⟨nm1, v1, n1, ls1, u1⟩ := c
    obtain ⟨nm2, v2, n2, ls2, u2⟩ := m
    obtain ⟨nm3, v3, n3, ls3, u3⟩ := o
    obtain ⟨nm, v, n, ls, u⟩ := b
    cases u1; cases u2; cases u3; cases u
    simp only at hlen
    simp only [F6, q1, q2, q3, q4, q5, s1, s2, hlen, l6, live12, Option.bind_some, decide_true, Bool.not_true, cond_false, Bool.or_self, Bool.not_false, cond_true]
  · have hb := flag_bad h
    have q1 := e20 b uid how f
    generalize flag b uid how f = r at *
    obtain ⟨c, e, u⟩ := r
    cases u
    simp only at hb h
    subst hb
    obtain ⟨nm, v, n, ls, u⟩ := b
    cases u
    simp only [F6, q1, live12, Option.bind_some, h, decide_false, Bool.not_false, cond_true, empty]
    rfl

/-! rises -/
def cutd (b : Box) (uid : Int) : Box := (b.1, b.2.1, b.2.2.1, b.2.2.2.1.filter (keep uid), ())

theorem cut_good {b : Box} {uid : Int} (R : Right b) : cut b uid = if has b.2.2.2.1 uid then (cutd b uid, 0, ()) else (empty, 9, ()) := by
  unfold cut
  rw [if_neg (not_not_intro (check_zero.mpr R))]
  rfl

theorem cutd_right {b : Box} (R : Right b) (uid : Int) : Right (cutd b uid) where
  valid := R.valid
  next := R.next
  few := by
    have := R.few
    exact Nat.le_trans (List.length_filter_le _ _) this
  each := fun l hl => R.each l ((List.mem_filter.mp hl).1)
  rise := List.Pairwise.filter _ R.rise

theorem cutd_len {uid : Int} : ∀ {ls : List Ltr}, ls.Pairwise (fun a b => a.1 < b.1) → has ls uid = true → (ls.filter (keep uid)).length + 1 = ls.length
  | [], _, h => by cases h
  | a :: t, hp, h => by
    obtain ⟨hp1, hp2⟩ := List.pairwise_cons.mp hp
    by_cases ha : a.1 = uid
    · have : t.filter (keep uid) = t := List.filter_eq_self.mpr fun x hx => by
        have := hp1 x hx
        simp only [keep, Bool.not_eq_true', decide_eq_false_iff_not]
        omega
      rw [List.filter_cons_of_neg (by simp [keep, ha]), this, List.length_cons]
    · have ht : has t uid = true := by simpa [has, ha] using h
      rw [List.filter_cons_of_pos (by simp [keep, ha]), List.length_cons, List.length_cons, cutd_len hp2 ht]

def added (b : Box) (f : UInt8) (p : List UInt8) : Box := (b.1, b.2.1, b.2.2.1 + 1, b.2.2.2.1 ++ [(b.2.2.1, f, p, ())], ())

theorem add_good {b : Box} {f : UInt8} {p : List UInt8} (R : Right b) (hf : f.toNat < 32) (hp : p.length ≤ 600) :
    add b f p = if b.2.2.2.1.length = 32 ∨ b.2.2.1 = 4294967295 then (empty, 0, 8, ()) else (added b f p, b.2.2.1, 0, ()) := by
  unfold add
  rw [if_neg (not_not_intro (check_zero.mpr R)), if_neg (by omega), if_neg (by omega)]
  rfl

theorem added_right {b : Box} {f : UInt8} {p : List UInt8} (R : Right b) (hf : f.toNat < 32) (hp : p.length ≤ 600) (h : ¬ (b.2.2.2.1.length = 32 ∨ b.2.2.1 = 4294967295)) : Right (added b f p) where
  valid := R.valid
  next := by
    have := R.next
    simp only [added]; omega
  few := by
    have := R.few
    simp only [added, List.length_append, List.length_cons, List.length_nil]; omega
  each := fun l hl => by
    have hn := R.next
    simp only [added] at hl ⊢
    rcases List.mem_append.mp hl with hl | hl
    · have q := R.each l hl
      exact ⟨q.1, by omega, q.2.2.1, q.2.2.2⟩
    · rw [List.mem_singleton.mp hl]
      exact ⟨by omega, by simp only; omega, hf, hp⟩
  rise := by
    simp only [added]
    rw [List.pairwise_append]
    refine ⟨R.rise, List.pairwise_singleton _ _, fun x hx y hy => ?_⟩
    rw [List.mem_singleton.mp hy]
    exact (R.each x hx).2.1

theorem L7_eq (b : Box) (l : List Int) (R : Right b) :
    ∃ c, L7_0 ((l, (), (b.2.2.1 - 1), (0:Int), ()), (b, ())) = some (.inl (((), ()), (c, ()))) ∧ Right c := by
  have hF := FUEL_big
  have h := loop_ind (f := B7_0) (p := ((l, (), (b.2.2.1 - 1), (0:Int), ()), (b, ())))
    (fun p => ∃ (i : Nat) (last : Int) (c : Box), p = ((l, (), last, (i : Int), ()), (c, ())) ∧ i ≤ 60 ∧ last < c.2.2.1 ∧ Right c)
    (fun p => (60 - p.1.2.2.2.1).toNat)
    (fun r => ∃ c, r = .inl (((), ()), (c, ())) ∧ Right c)
    (fun p hp => by
      obtain ⟨i, last, c, rfl, hi, hl, R⟩ := hp
      have e21 := F21_eq c
      have e10 := F10_eq c
      have e17 := F17_eq
      have hn := R.next
      have hfew := R.few
      by_cases hc : i < l.length ∧ i < 60
      · left
        have hc' : decide ((i : Int) < 60) = true := by
          rw [decide_eq_true_eq]; omega
        by_cases h0 : l.getD i 0 = 0
        · have ea := add_good (f := 0) (p := [u8of (i : Int)]) R (by decide) (by simp)
          by_cases hfull : c.2.2.2.1.length = 32 ∨ c.2.2.1 = 4294967295
          · rw [if_pos hfull] at ea
            refine ⟨((l, (), last, ((i + 1 : Nat) : Int), ()), (c, ())), ?_, ⟨i + 1, last, c, rfl, by omega, hl, R⟩, by simp only; omega⟩
            obtain ⟨nm, v, n, ls, u⟩ := c
            cases u
            simp only [B7_0, hc', cond_true, nat_lt, nat_nn, hc.1, decide_true, Bool.and_true, Int.toNat_natCast, h0, Bool.not_true, cond_false, e10, ea, Option.bind_some, w64_nat (show i < 9223372036854775807 by omega)]
          · rw [if_neg hfull] at ea
            have R' := added_right (f := 0) (p := [u8of (i : Int)]) R (by decide) (by simp) hfull
            have ec := check_zero.mpr R'
            have e17' := e17 (added c 0 [u8of (i : Int)])
            rw [ec] at e17'
            refine ⟨((l, (), c.2.2.1, ((i + 1 : Nat) : Int), ()), (added c 0 [u8of (i : Int)], ())), ?_, ⟨i + 1, c.2.2.1, _, rfl, by omega, by simp only [added]; omega, R'⟩, by simp only; omega⟩
            obtain ⟨nm, v, n, ls, u⟩ := c
            cases u
            simp only at hl hn hfew
            simp only [added] at e17'
            have hle : decide (n ≤ last) = false := by simp; omega
            have hlen : decide (((((ls ++ [(n, 0, [u8of (i : Int)], ())]).length : Nat)) : Int) = w64 ((ls.length : Int) + 1)) = true := by
              rw [w64_nat (show ls.length < 9223372036854775807 by omega)]
              simp
            simp only [B7_0, hc', cond_true, nat_lt, nat_nn, hc.1, decide_true, Bool.and_true, Int.toNat_natCast, h0, Bool.not_true, cond_false, e10, ea, added, Option.bind_some, w64_nat (show i < 9223372036854775807 by omega), hle, Bool.or_self, Bool.not_false, e17', hlen,
              show decide ((0 : Int) = 8) = false from rfl]
        · have ea := cut_good (uid := l.getD i 0) R
          cases hh : has c.2.2.2.1 (l.getD i 0)
          · rw [hh] at ea
            simp only [Bool.false_eq_true, ↓reduceIte] at ea
            refine ⟨((l, (), last, ((i + 1 : Nat) : Int), ()), (c, ())), ?_, ⟨i + 1, last, c, rfl, by omega, hl, R⟩, by simp only; omega⟩
            obtain ⟨nm, v, n, ls, u⟩ := c
            cases u
            simp only [B7_0, hc', cond_true, nat_lt, nat_nn, hc.1, decide_true, decide_false, Bool.and_true, Int.toNat_natCast, h0, Bool.not_false, cond_false, e21, ea, agr_self, Option.bind_some, w64_nat (show i < 9223372036854775807 by omega),
              show decide ((9 : Int) = 0) = false from rfl]
          · rw [hh] at ea
            simp only [↓reduceIte] at ea
            have hln := cutd_len R.rise hh
            refine ⟨((l, (), last, ((i + 1 : Nat) : Int), ()), (cutd c (l.getD i 0), ())), ?_, ⟨i + 1, last, _, rfl, by omega, hl, cutd_right R _⟩, by simp only; omega⟩
            obtain ⟨nm, v, n, ls, u⟩ := c
            cases u
            simp only at hl hn hfew hln
            have hlen : decide (((((ls.filter (keep (l.getD i 0))).length : Nat)) : Int) = w64 ((ls.length : Int) - 1)) = true := by
              rw [w64_id (n := (ls.length : Int) - 1) (by omega) (by omega), decide_eq_true_eq]
              omega
            simp only [B7_0, hc', cond_true, nat_lt, nat_nn, hc.1, decide_true, decide_false, Bool.and_true, Int.toNat_natCast, h0, Bool.not_false, Bool.not_true, Bool.or_self, cond_false, e21, ea, cutd, hlen, agr_self, Option.bind_some, w64_nat (show i < 9223372036854775807 by omega)]
      · right
        have hc' : (decide ((i : Int) < ((l.length : Nat) : Int)) && decide ((i : Int) < 60)) = false := by
          rw [Bool.and_eq_false_iff, decide_eq_false_iff_not, decide_eq_false_iff_not]; omega
        refine ⟨.inl (((), ()), (c, ())), ?_, c, rfl, R⟩
        simp only [B7_0, hc', cond_false])
    ⟨0, _, b, rfl, by omega, by omega, R⟩ (by simp only; omega)
  obtain ⟨r, h1, c, rfl, h2⟩ := h
  exact ⟨c, h1, h2⟩

theorem law7 (b : Box) (l : List Int) : F7 ((b, l, ()), ()) = some (true, ()) := by
  have e17 := F17_eq b
  by_cases h : check b = 0
  · have R := check_zero.mp h
    have hn := R.next
    obtain ⟨c, h1, h2⟩ := L7_eq b l R
    have e16 := F16_eq c
    rw [check_zero.mpr h2] at e16
    obtain ⟨nm, v, n, ls, u⟩ := b
    obtain ⟨nm1, v1, n1, ls1, u1⟩ := c
    cases u; cases u1
    simp only at hn h1
    simp only [F7, e17, h, decide_true, Bool.not_true, cond_false, Option.bind_some, w64_id (n := n - 1) (by omega) (by omega), h1, live12, cond_true, e16]
  · obtain ⟨nm, v, n, ls, u⟩ := b
    cases u
    simp only [F7, e17, h, decide_false, Bool.not_false, cond_true, Option.bind_some, live12]

end Go.Bx
