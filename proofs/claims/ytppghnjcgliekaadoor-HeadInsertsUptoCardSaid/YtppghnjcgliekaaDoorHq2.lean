/- Names of fields; what may be folded; words. -/
import Derived.Test.YtppghnjcgliekaaDoorHq1
import Derived.Lib.FieldsP
import Derived.Lib.SpaceUEq
namespace Go.Hd
open Go Go.Ev
set_option maxRecDepth 100000

/-! ### a field's name -/
def nmc (c : UInt8) : Bool := !((decide (c.toNat < 33) || decide (126 < c.toNat)) || decide (c = 58))

def rn (s : List UInt8) : Bool := s.all nmc && (decide (1 ≤ s.length) && decide (s.length ≤ 24))

theorem F31_eq (s : List UInt8) (hs : s.length ≤ 9223372036854775807) : F31 ((s, ()), ()) = some (rn s, ()) := by
  have hF : (9223372036854775807 : Nat) < FUEL := by unfold FUEL; omega
  have h := walk_list (f := B31_0) (fun (_ : Unit) i => ((s, (i : Int), ()), ())) s (fun a _ => if nmc a = true then .inl () else .inr (.inr (((), ()), ()))) (fun _ => .inl ((s, ()), ())) (b := ())
    (fun b i a hi ha => by
      simp only [B31_0, nat_nn, nat_lt, hi, decide_true, Bool.and_self, Bool.true_or, cond_true, Int.toNat_natCast, ha, show UInt8.toNat 33 = 33 from rfl, show UInt8.toNat 126 = 126 from rfl]
      unfold nmc
      cases ((decide (a.toNat < 33) || decide (126 < a.toNat)) || decide (a = 58))
      · simp only [cond_false, Bool.not_false, ↓reduceIte, w64_nat (show i < 9223372036854775807 by omega)]
      · simp only [cond_true, Bool.not_true, Bool.false_eq_true, ↓reduceIte])
    (fun b => by simp only [B31_0, Int.lt_irrefl, decide_false, cond_false]) (by omega)
  rw [foldS_all] at h
  have h' : L31_0 ((s, (0:Int), ()), ()) = _ := h
  simp only [F31, h', rn]
  cases s.all nmc
  · simp only [Bool.false_eq_true, ↓reduceIte, Option.bind_some, Bool.false_and]
  · have e1 : decide ((1:Int) ≤ ((s.length : Nat) : Int)) = decide (1 ≤ s.length) := by rw [decide_eq_decide]; omega
    have e2 : decide (((s.length : Nat) : Int) ≤ 24) = decide (s.length ≤ 24) := by rw [decide_eq_decide]; omega
    simp only [↓reduceIte, Option.bind_some, Bool.true_and, e1, e2]

theorem F27_eq (s : List UInt8) (hs : s.length ≤ 9223372036854775807) : F27 ((s, ()), ()) = some (rn s, ()) := by
  have hF : (9223372036854775807 : Nat) < FUEL := by unfold FUEL; omega
  have h := walk_list (f := B27_0) (fun (_ : Unit) i => ((s, (s.length : Int), (i : Int), ()), ())) s (fun a _ => if nmc a = true then .inl () else .inr (.inr (((), ()), ()))) (fun _ => .inl ((s, ()), ())) (b := ())
    (fun b i a hi ha => by
      simp only [B27_0, nat_nn, nat_lt, hi, decide_true, Bool.and_self, Bool.true_or, cond_true, Int.toNat_natCast, ha, show UInt8.toNat 33 = 33 from rfl, show UInt8.toNat 126 = 126 from rfl]
      unfold nmc
      cases ((decide (a.toNat < 33) || decide (126 < a.toNat)) || decide (a = 58))
      · simp only [cond_false, Bool.not_false, ↓reduceIte, w64_nat (show i < 9223372036854775807 by omega)]
      · simp only [cond_true, Bool.not_true, Bool.false_eq_true, ↓reduceIte])
    (fun b => by simp only [B27_0, Int.lt_irrefl, decide_false, cond_false]) (by omega)
  rw [foldS_all] at h
  have h' : L27_0 ((s, (s.length : Int), (0:Int), ()), ()) = _ := h
  simp only [F27, h', rn]
  cases s.all nmc
  · simp only [Bool.false_eq_true, ↓reduceIte, Option.bind_some, Bool.false_and]
  · have e2 : decide (((s.length : Nat) : Int) ≤ 24) = decide (s.length ≤ 24) := by rw [decide_eq_decide]; omega
    have e1 : (!decide (s = [])) = decide (1 ≤ s.length) := by cases s <;> simp
    simp only [↓reduceIte, Option.bind_some, Bool.true_and, e1, e2]

/-! ### words -/
/-- the letters up to the first blank, and the words behind them, each with its blank -/
def w1 : List UInt8 → List UInt8 × List (List UInt8)
  | [] => ([], [])
  | c :: t => if bl c = true then ([], (c :: (w1 t).1) :: (w1 t).2) else (c :: (w1 t).1, (w1 t).2)

theorem w1_pre : ∀ (a b : List UInt8), (∀ x ∈ a, bl x = false) → w1 (a ++ b) = (a ++ (w1 b).1, (w1 b).2)
  | [], _, _ => rfl
  | x :: a, b, h => by
    have ih := w1_pre a b fun y hy => h y (List.mem_cons_of_mem _ hy)
    have hx := h x (List.mem_cons_self ..)
    simp only [List.cons_append, w1, hx, Bool.false_eq_true, ↓reduceIte, ih]

theorem w1_join : ∀ l : List UInt8, l = (w1 l).1 ++ (w1 l).2.flatten
  | [] => rfl
  | c :: t => by
    have ih := w1_join t
    unfold w1
    split
    · simp only [List.nil_append, List.flatten_cons, List.cons_append]
      rw [← ih]
    · simp only [List.cons_append]
      rw [← ih]

theorem w1_fst : ∀ l : List UInt8, ∀ x ∈ (w1 l).1, bl x = false
  | [], x, h => by cases h
  | c :: t, x, h => by
    unfold w1 at h
    split at h
    · cases h
    · next hc =>
      rcases List.mem_cons.mp h with rfl | h
      · simpa using hc
      · exact w1_fst t x h

def wordOK (w : List UInt8) : Prop := ∃ b t, w = b :: t ∧ bl b = true ∧ ∀ x ∈ t, bl x = false

theorem w1_snd : ∀ l : List UInt8, ∀ w ∈ (w1 l).2, wordOK w
  | [], x, h => by cases h
  | c :: t, x, h => by
    unfold w1 at h
    split at h
    · next hc =>
      rcases List.mem_cons.mp h with rfl | h
      · exact ⟨c, _, rfl, hc, w1_fst t⟩
      · exact w1_snd t x h
    · exact w1_snd t x h

/-- a word that is too long -/
def lng (v : List UInt8) : Bool := decide (900 < (w1 v).1.length) || (w1 v).2.any fun w => decide (901 < w.length)

def longs (acc : List (Nat × Nat)) : Bool := acc.any fun x => decide (900 < x.2 - x.1)

theorem cont_not (c : UInt8) (h : c.toNat / 64 = 2) : bl c = false := by
  unfold bl
  rw [Bool.or_eq_false_iff, decide_eq_false_iff_not, decide_eq_false_iff_not]
  constructor
  · rintro rfl
    revert h
    decide
  · rintro rfl
    revert h
    decide

theorem rune_bl (l : List UInt8) (b : UInt8) (t : List UInt8) (hl : l = b :: t) : blank50 (Lib.decodeL l).1 = bl b ∧ (bl b = true → (Lib.decodeL l).2 = 1) ∧ 1 ≤ (Lib.decodeL l).2 ∧ (Lib.decodeL l).2 ≤ l.length ∧ (bl b = false → ∀ x ∈ l.take (Lib.decodeL l).2, bl x = false) := by
  subst hl
  have hw := Lib.decodeL_width (b :: t)
  by_cases hb : b.toNat < 128
  · rw [Lib.decodeL_ascii b t hb]
    refine ⟨?_, fun _ => rfl, Nat.le_refl _, by simp, fun h x hx => ?_⟩
    · unfold blank50 bl
      have e1 : (b.toNat == 32) = decide (b = 32) := by
        rw [Bool.eq_iff_iff, beq_iff_eq, decide_eq_true_eq, ← UInt8.toNat_inj]; rfl
      have e2 : (b.toNat == 9) = decide (b = 9) := by
        rw [Bool.eq_iff_iff, beq_iff_eq, decide_eq_true_eq, ← UInt8.toNat_inj]; rfl
      rw [← e1, ← e2]
    · simp only [List.take_succ_cons, List.take_zero, List.mem_singleton] at hx
      rw [hx]; exact h
  · have hbig := dec_big (t := t) (Nat.le_of_not_lt hb)
    have hbb : bl b = false := by
      unfold bl
      rw [Bool.or_eq_false_iff, decide_eq_false_iff_not, decide_eq_false_iff_not]
      constructor
      · rintro rfl
        exact hb (by decide)
      · rintro rfl
        exact hb (by decide)
    have hc := Lib.decodeN_conts (b :: t).length ((b :: t).getD 0 0).toNat ((b :: t).getD 1 0).toNat ((b :: t).getD 2 0).toNat ((b :: t).getD 3 0).toNat
    rw [← Lib.decodeL_N] at hc
    obtain ⟨c2, c3, c4, c5⟩ := hc
    have hlen : (Lib.decodeL (b :: t)).2 ≤ (b :: t).length := Lib.decodeL_le _ (by simp)
    refine ⟨?_, (fun h => absurd h (by rw [hbb]; decide)), hw, hlen, fun _ x hx => ?_⟩
    · rw [hbb]
      unfold blank50
      rw [Bool.or_eq_false_iff, beq_eq_false_iff_ne, beq_eq_false_iff_ne]
      omega
    · obtain ⟨j, hj, rfl⟩ := List.mem_iff_getElem.mp hx
      have hj' : j < (Lib.decodeL (b :: t)).2 := by rw [List.length_take] at hj; omega
      rw [List.getElem_take]
      have hg : ∀ (h : j < (b :: t).length), (b :: t)[j] = (b :: t).getD j 0 := fun h => by rw [List.getD_eq_getElem?_getD, List.getElem?_eq_getElem h]; rfl
      rw [hg (by omega)]
      match j, hj' with
      | 0, _ => exact hbb
      | 1, h => exact cont_not _ (c2 (by omega)).1
      | 2, h => exact cont_not _ (c3 (by omega)).1
      | 3, h => exact cont_not _ (c4 (by omega)).1
      | j + 4, h => omega

theorem longs_snoc (acc : List (Nat × Nat)) (a b : Nat) : longs (acc ++ [(a, b)]) = (longs acc || decide (900 < b - a)) := by
  simp [longs]

/-- letters behind which a word is open -/
def opn (st : Option Nat) (pos : Nat) : Nat := match st with
  | some a => pos - a
  | none => 0

theorem spans_long (v : List UInt8) : ∀ (f pos : Nat) (st : Option Nat) (acc : List (Nat × Nat)), v.length ≤ pos + f → pos ≤ v.length → (∀ a, st = some a → a ≤ pos) →
    longs (Lib.closeSpans ⟨v.toArray⟩ (Lib.spansFromP blank50 ⟨v.toArray⟩ f pos st acc)) = (longs acc || (decide (900 < opn st pos + (w1 (v.drop pos)).1.length) || (w1 (v.drop pos)).2.any fun w => decide (901 < w.length)))
  | 0, pos, st, acc, h1, h2, h3 => by
    obtain rfl : pos = v.length := by omega
    have hsz : (⟨v.toArray⟩ : ByteArray).size = v.length := rfl
    rw [List.drop_length]
    simp only [w1, List.length_nil, Nat.add_zero, List.any_nil, Bool.or_false, Lib.spansFromP, Lib.closeSpans, hsz, opn]
    cases st with
    | none => simp
    | some a => simp only [longs_snoc]; rfl
  | f + 1, pos, st, acc, h1, h2, h3 => by
    have hsz : (⟨v.toArray⟩ : ByteArray).size = v.length := rfl
    by_cases hlt : pos < v.length
    · have hd := List.drop_eq_getElem_cons hlt
      generalize v[pos] = b at hd
      obtain ⟨r1, r2, r3, r4, r5⟩ := rune_bl (v.drop pos) b _ hd
      rw [← dec_at hlt] at r1 r2 r3 r4 r5
      unfold Lib.spansFromP
      rw [hsz, if_pos hlt, r1]
      generalize hdec : Utf8.decode ⟨v.toArray⟩ pos = d at *
      obtain ⟨dr, dw⟩ := d
      simp only at *
      rw [List.length_drop] at r4
      by_cases hb : bl b = true
      · have hw := r2 hb
        subst hw
        rw [hd]
        have e : w1 (b :: v.drop (pos + 1)) = ([], (b :: (w1 (v.drop (pos + 1))).1) :: (w1 (v.drop (pos + 1))).2) := by simp only [w1, hb, ↓reduceIte]
        rw [e]
        simp only [hb, ↓reduceIte, List.length_nil, Nat.add_zero, List.any_cons, List.length_cons]
        have q : decide (901 < (w1 (v.drop (pos + 1))).1.length + 1) = decide (900 < 0 + (w1 (v.drop (pos + 1))).1.length) := by rw [decide_eq_decide]; omega
        rw [q]
        cases st with
        | none =>
          simp only
          rw [spans_long v f (pos + 1) none acc (by omega) (by omega) (fun a h => by cases h)]
          simp [opn]
        | some a =>
          simp only
          rw [spans_long v f (pos + 1) none _ (by omega) (by omega) (fun a h => by cases h), longs_snoc]
          simp only [opn, Bool.or_assoc]
          rfl
      · rw [Bool.not_eq_true] at hb
        have hnb := r5 hb
        have hsplit : v.drop pos = (v.drop pos).take dw ++ v.drop (pos + dw) := by
          rw [← List.drop_drop, List.take_append_drop]
        have e : w1 (v.drop pos) = ((v.drop pos).take dw ++ (w1 (v.drop (pos + dw))).1, (w1 (v.drop (pos + dw))).2) := by
          conv => lhs; rw [hsplit]
          exact w1_pre _ _ hnb
        have hl : ((v.drop pos).take dw).length = dw := by rw [List.length_take, List.length_drop]; omega
        rw [e]
        simp only [hb, Bool.false_eq_true, ↓reduceIte, List.length_append, hl]
        cases st with
        | none =>
          simp only
          rw [spans_long v f (pos + dw) (some pos) acc (by omega) (by omega) (fun a h => by cases h; omega)]
          have : opn (some pos) (pos + dw) + (w1 (v.drop (pos + dw))).1.length = opn none pos + (dw + (w1 (v.drop (pos + dw))).1.length) := by unfold opn; simp only; omega
          rw [this]
        | some a =>
          have ha := h3 a rfl
          simp only
          rw [spans_long v f (pos + dw) (some a) acc (by omega) (by omega) (fun x h => by cases h; omega)]
          have : opn (some a) (pos + dw) + (w1 (v.drop (pos + dw))).1.length = opn (some a) pos + (dw + (w1 (v.drop (pos + dw))).1.length) := by unfold opn; simp only; omega
          rw [this]
    · obtain rfl : pos = v.length := by omega
      rw [Lib.spansFromP_end _ _ _ _ _ _ (by rw [hsz]; omega), List.drop_length]
      simp only [w1, List.length_nil, Nat.add_zero, List.any_nil, Bool.or_false, Lib.closeSpans, hsz, opn]
      cases st with
      | none => simp
      | some a => simp only [longs_snoc]; rfl

theorem spans_in (v : List UInt8) : ∀ (f pos : Nat) (st : Option Nat) (acc : List (Nat × Nat)), pos ≤ v.length → (∀ a, st = some a → a ≤ pos) → (∀ x ∈ acc, x.2 ≤ v.length) →
    ∀ x ∈ Lib.closeSpans ⟨v.toArray⟩ (Lib.spansFromP blank50 ⟨v.toArray⟩ f pos st acc), x.2 ≤ v.length
  | 0, pos, st, acc, h1, h2, h3 => by
    intro x hx
    cases st with
    | none => exact h3 x hx
    | some a =>
      simp only [Lib.spansFromP, Lib.closeSpans, List.mem_append, List.mem_singleton] at hx
      rcases hx with h | rfl
      · exact h3 x h
      · exact Nat.le_refl _
  | f + 1, pos, st, acc, h1, h2, h3 => by
    have hsz : (⟨v.toArray⟩ : ByteArray).size = v.length := rfl
    unfold Lib.spansFromP
    rw [hsz]
    by_cases hlt : pos < v.length
    · rw [if_pos hlt]
      have hd := List.drop_eq_getElem_cons hlt
      obtain ⟨_, _, _, r4, _⟩ := rune_bl (v.drop pos) _ _ hd
      rw [← dec_at hlt, List.length_drop] at r4
      split
      · cases st with
        | none => exact spans_in v f _ none acc (by omega) (fun a h => by cases h) h3
        | some a =>
          exact spans_in v f _ none _ (by omega) (fun a h => by cases h) (fun x hx => by
            rcases List.mem_append.mp hx with h | h
            · exact h3 x h
            · rw [List.mem_singleton] at h
              subst h
              exact h1)
      · cases st with
        | none => exact spans_in v f _ (some pos) acc (by omega) (fun a h => by cases h; omega) h3
        | some a => exact spans_in v f _ (some a) acc (by omega) (fun x h => by have := h2 a rfl; cases h; omega) h3
    · rw [if_neg hlt]
      intro x hx
      cases st with
      | none => exact h3 x hx
      | some a =>
        simp only [Lib.closeSpans, List.mem_append, List.mem_singleton] at hx
        rcases hx with h | rfl
        · exact h3 x h
        · exact Nat.le_refl _

/-- the fields of a text: one is too long just if a word is -/
theorem fields_long (v : List UInt8) : ((Lib.goFieldsP blank50 ⟨v.toArray⟩).map fun x => x.data.toList).any (fun w => decide (900 < w.length)) = lng v := by
  have h := spans_long v v.length 0 none [] (by omega) (by omega) (fun a h => by cases h)
  have hin := spans_in v v.length 0 none [] (by omega) (fun a h => by cases h) (fun x h => by cases h)
  rw [List.drop_zero] at h
  simp only [opn, Nat.zero_add, show longs [] = false from rfl, Bool.false_or] at h
  unfold Lib.goFieldsP Lib.spansOfP lng
  rw [← h]
  unfold longs
  have hsz : (⟨v.toArray⟩ : ByteArray).size = v.length := rfl
  rw [hsz]
  generalize Lib.closeSpans _ _ = S at *
  rw [List.map_map]
  clear h
  induction S with
  | nil => rfl
  | cons x t ih =>
    have hx := hin x (List.mem_cons_self ..)
    rw [List.map_cons, List.any_cons, List.any_cons, ih fun y hy => hin y (List.mem_cons_of_mem _ hy)]
    congr 1
    simp only [Function.comp]
    have e : ((⟨v.toArray⟩ : ByteArray).extract x.1 x.2).data.toList.length = x.2 - x.1 := by
      have := ByteArray.size_extract (a := (⟨v.toArray⟩ : ByteArray)) (b := x.1) (e := x.2)
      rw [hsz] at this
      have e2 : ((⟨v.toArray⟩ : ByteArray).extract x.1 x.2).data.toList.length = ((⟨v.toArray⟩ : ByteArray).extract x.1 x.2).size := by
        rw [Array.length_toList]; rfl
      rw [e2, this]
      omega
    rw [decide_eq_decide]
    change 900 < ((⟨v.toArray⟩ : ByteArray).extract x.1 x.2).data.toList.length ↔ _
    rw [e]

theorem F48_eq (L : List (List UInt8)) (hL : L.length ≤ 1100002) : F48c51 ((L, (), ()), ()) = some (L.any (fun w => decide (900 < w.length)), ()) := by
  have hF := FUEL_big
  have h2 := walk_listI (f := B68c51_0) (fun (_ : Nat) i => ((L, (), (L.length : Int), (i : Int), ()), ())) L
    (fun a k => if decide (900 < a.length) = true then .inr (.inr ((((k : Nat) : Int), ()), ())) else .inl (k + 1)) (fun _ => .inl ((), ())) (fun b i => b = i) (b := 0)
    (fun b i a hI hi ha => by
      subst hI
      have e : decide ((900:Int) < ((a.length : Nat) : Int)) = decide (900 < a.length) := by rw [decide_eq_decide]; omega
      simp only [B68c51_0, nat_nn, nat_lt, hi, decide_true, Bool.and_self, cond_true, Int.toNat_natCast, ha, F51, Option.bind_some, e]
      cases decide (900 < a.length)
      · left
        refine ⟨b + 1, by simp, rfl, ?_⟩
        simp only [cond_false, w64_nat (show b < 9223372036854775807 by omega)]
      · right
        exact ⟨_, rfl, rfl⟩)
    (fun b _ => by simp only [B68c51_0, Int.lt_irrefl, decide_false, cond_false]) (by omega) rfl
  have h3 : L68c51_0 ((L, (), (L.length : Int), (0:Int), ()), ()) = _ := h2
  simp only [F48c51, F68c51, h3]
  clear h2 h3
  suffices H : ∀ (t : List (List UInt8)) (k : Nat), ∃ r, foldS (fun (a : List UInt8) (k : Nat) => if decide (900 < a.length) = true then (.inr (.inr ((((k : Nat) : Int), ()), ())) : Nat ⊕ ((Unit × Unit) ⊕ ((Int × Unit) × Unit))) else .inl (k + 1)) (fun _ => .inl ((), ())) k t = r ∧
      (t.any (fun w => decide (900 < w.length)) = true → ∃ j : Nat, r = .inr ((((j : Nat) : Int), ()), ())) ∧ (t.any (fun w => decide (900 < w.length)) = false → r = .inl ((), ())) by
    obtain ⟨r, e, q1, q2⟩ := H L 0
    rw [e]
    cases hh : L.any (fun w => decide (900 < w.length))
    · rw [q2 hh]
      rfl
    · obtain ⟨j, rfl⟩ := q1 hh
      simp
  intro t
  induction t with
  | nil => intro k; exact ⟨_, rfl, fun h => by simp at h, fun _ => rfl⟩
  | cons a t ih =>
    intro k
    refine ⟨_, rfl, ?_, ?_⟩
    · intro h
      by_cases ha : 900 < a.length
      · exact ⟨k, by simp [foldS, ha]⟩
      · obtain ⟨r, e, q1, _⟩ := ih (k + 1)
        have := q1 (by simpa [ha] using h)
        rw [← e] at this
        simpa [foldS, ha] using this
    · intro h
      have ha : ¬ 900 < a.length := by
        intro ha
        simp [ha] at h
      obtain ⟨r, e, _, q2⟩ := ih (k + 1)
      have := q2 (by simpa [ha] using h)
      rw [← e] at this
      simpa [foldS, ha] using this

theorem spans_few (s : ByteArray) : ∀ (f pos : Nat) (st : Option Nat) (acc : List (Nat × Nat)), (Lib.spansFromP blank50 s f pos st acc).1.length ≤ acc.length + f
  | 0, _, _, _ => Nat.le_refl _
  | f + 1, pos, st, acc => by
    unfold Lib.spansFromP
    split
    · split
      · cases st with
        | none => exact Nat.le_trans (spans_few s f _ _ _) (by omega)
        | some a => exact Nat.le_trans (spans_few s f _ _ _) (by simp; omega)
      · cases st with
        | none => exact Nat.le_trans (spans_few s f _ _ _) (by omega)
        | some a => exact Nat.le_trans (spans_few s f _ _ _) (by omega)
    · simp

theorem fields_few (v : List UInt8) : (Lib.goFieldsP blank50 ⟨v.toArray⟩).length ≤ v.length + 1 := by
  have h := spans_few ⟨v.toArray⟩ v.length 0 none []
  unfold Lib.goFieldsP Lib.spansOfP Lib.closeSpans
  have hsz : (⟨v.toArray⟩ : ByteArray).size = v.length := rfl
  rw [hsz, List.length_map]
  simp only [List.length_nil, Nat.zero_add] at h
  split
  · rw [List.length_append, List.length_singleton]; omega
  · omega

end Go.Hd

namespace Go.Hd
open Go Go.Ev
set_option maxRecDepth 100000

def ctl (c : UInt8) : Bool := (decide (c.toNat < 32) && !decide (c = 9)) || decide (c = 127)

def badC (v : List UInt8) (i : Nat) : Bool := ctl (v.getD i 0) || (bl (v.getD i 0) && ((decide (i = 0) || decide (i + 1 = v.length)) || bl (v.getD (i - 1) 0)))
def badR (v : List UInt8) (i : Nat) : Bool := ctl (v.getD i 0) || (bl (v.getD i 0) && ((decide (i = 0) || decide (i + 1 = v.length)) || bl (v.getD (i + 1) 0)))

def okv (v : List UInt8) : Bool := (List.range v.length).all fun i => !badR v i

theorem bad_iff (v : List UInt8) : ((List.range v.length).all fun i => !badC v i) = okv v := by
  unfold okv
  rw [Bool.eq_iff_iff, List.all_eq_true, List.all_eq_true]
  constructor
  · intro h i hi
    rw [List.mem_range] at hi
    have h0 := h i (List.mem_range.mpr hi)
    simp only [badC, Bool.not_or, Bool.and_eq_true, Bool.not_eq_true'] at h0
    simp only [badR, Bool.not_or, Bool.and_eq_true, Bool.not_eq_true']
    refine ⟨h0.1, ?_⟩
    rw [Bool.and_eq_false_iff]
    by_cases hb : bl (v.getD i 0) = true
    · right
      rw [hb, Bool.true_and, Bool.or_eq_false_iff] at h0
      rw [Bool.or_eq_false_iff]
      refine ⟨h0.2.1, ?_⟩
      rw [Bool.or_eq_false_iff, decide_eq_false_iff_not, decide_eq_false_iff_not] at h0
      have h1 := h (i + 1) (List.mem_range.mpr (by omega))
      simp only [badC, Bool.not_or, Bool.and_eq_true, Bool.not_eq_true', Nat.add_sub_cancel, hb, Bool.or_true, Bool.and_true] at h1
      exact h1.2
    · left; simpa using hb
  · intro h i hi
    rw [List.mem_range] at hi
    have h0 := h i (List.mem_range.mpr hi)
    simp only [badR, Bool.not_or, Bool.and_eq_true, Bool.not_eq_true'] at h0
    simp only [badC, Bool.not_or, Bool.and_eq_true, Bool.not_eq_true']
    refine ⟨h0.1, ?_⟩
    rw [Bool.and_eq_false_iff]
    by_cases hb : bl (v.getD i 0) = true
    · right
      rw [hb, Bool.true_and, Bool.or_eq_false_iff] at h0
      rw [Bool.or_eq_false_iff]
      refine ⟨h0.2.1, ?_⟩
      rw [Bool.or_eq_false_iff, decide_eq_false_iff_not, decide_eq_false_iff_not] at h0
      have h1 := h (i - 1) (List.mem_range.mpr (by omega))
      rw [show i = i - 1 + 1 by omega] at hb
      simp only [badR, Bool.not_or, Bool.and_eq_true, Bool.not_eq_true', hb, Bool.or_true, Bool.and_true] at h1
      exact h1.2
    · left; simpa using hb

theorem range_get (n i : Nat) (a : Nat) (hi : i < (List.range n).length) (ha : ∀ d, (List.range n).getD i d = a) : a = i ∧ i < n := by
  rw [List.length_range] at hi
  have := ha 0
  rw [List.getD_eq_getElem?_getD, List.getElem?_eq_getElem (by simpa using hi), List.getElem_range] at this
  exact ⟨this.symm, hi⟩

theorem F34_eq (v : List UInt8) (hv : v.length ≤ 9223372036854775807) : F34 ((v, ()), ()) = some (if okv v then (if 1024 < v.length ∨ lng v = true then 6 else 0) else 4, ()) := by
  have hF : (9223372036854775807 : Nat) < FUEL := by unfold FUEL; omega
  have h := walk_list (f := B34_0) (fun (_ : Unit) i => ((v, (v.length : Int), (i : Int), ()), ())) (List.range v.length) (fun a _ => if (!badC v a) = true then .inl () else .inr (.inr (((), ()), ()))) (fun _ => .inl ((v, ()), ())) (b := ())
    (fun b i a hi ha => by
      obtain ⟨rfl, hi⟩ := range_get _ _ _ hi ha
      have hw : w64 ((v.length : Int) - 1) = ((v.length - 1 : Nat) : Int) := by rw [w64_id (by omega) (by omega)]; omega
      have e1 : decide ((a : Int) = 0) = decide (a = 0) := by rw [decide_eq_decide]; omega
      have e2 : decide ((a : Int) = ((v.length - 1 : Nat) : Int)) = decide (a + 1 = v.length) := by rw [decide_eq_decide]; omega
      simp only [B34_0, nat_nn, nat_lt, hi, decide_true, Bool.and_self, cond_true, Int.toNat_natCast, hw, e1, e2, F25_eq, Option.bind_some, w64_nat (show a < 9223372036854775807 by omega), Bool.and_true]
      unfold badC ctl
      by_cases he : a = 0 ∨ a + 1 = v.length
      · have he' : (decide (a = 0) || decide (a + 1 = v.length)) = true := by simpa using he
        simp only [he', Bool.or_true, Bool.not_true, cond_true, cond_false, Bool.true_or, Bool.and_true, show UInt8.toNat 32 = 32 from rfl]
        cases (decide ((v.getD a 0).toNat < 32) && !decide (v.getD a 0 = 9)) || decide (v.getD a 0 = 127)
        · cases bl (v.getD a 0) <;> rfl
        · rfl
      · have he' : (decide (a = 0) || decide (a + 1 = v.length)) = false := by simpa using he
        have hw2 : w64 ((a : Int) - 1) = ((a - 1 : Nat) : Int) := by rw [w64_id (by omega) (by omega)]; omega
        have hlt : a - 1 < v.length := by omega
        simp only [hw2, nat_nn, nat_lt, hlt, decide_true, Bool.and_self, Bool.true_or, he', Bool.not_false, cond_true, Int.toNat_natCast, Bool.false_or, show UInt8.toNat 32 = 32 from rfl]
        cases (decide ((v.getD a 0).toNat < 32) && !decide (v.getD a 0 = 9)) || decide (v.getD a 0 = 127)
        · cases bl (v.getD a 0) <;> cases bl (v.getD (a - 1) 0) <;> rfl
        · rfl)
    (fun b => by simp only [List.length_range, B34_0, Int.lt_irrefl, decide_false, cond_false]) (by rw [List.length_range]; omega)
  rw [foldS_all, bad_iff] at h
  have h' : L34_0 ((v, (v.length : Int), (0:Int), ()), ()) = _ := h
  simp only [F34, h']
  cases okv v
  · rfl
  · have e : decide ((1024:Int) < ((v.length : Nat) : Int)) = decide (1024 < v.length) := by rw [decide_eq_decide]; omega
    simp only [↓reduceIte, Option.bind_some, e]
    by_cases h1 : 1024 < v.length
    · simp only [h1, decide_true, Bool.not_true, cond_false, true_or, ↓reduceIte]
    · have hsz : decide (v.length ≤ 4294967296) = true := by rw [decide_eq_true_eq]; omega
      have hlen : (List.map (fun x => x.data.toList) (Lib.goFieldsP blank50 ⟨v.toArray⟩)).length ≤ 1100002 := by
        rw [List.length_map]
        have := fields_few v
        omega
      simp only [h1, decide_false, Bool.not_false, cond_true, hsz, F48_eq _ hlen, Option.bind_some, fields_long, false_or]
      cases lng v <;> rfl

end Go.Hd

namespace Go.Hd
open Go Go.Ev
set_option maxRecDepth 100000

/-! ### the document's answer -/
theorem L15a_eq (n v : List UInt8) (hv : v.length ≤ 9223372036854775807) : L15_0 ((n, v, (0:Int), ()), ()) = some (if okv v then .inl ((n, v, ()), ()) else .inr (((), (), ()), ())) := by
  have hF : (9223372036854775807 : Nat) < FUEL := by unfold FUEL; omega
  have h := walk_list (f := B15_0) (fun (_ : Unit) i => ((n, v, (i : Int), ()), ())) (List.range v.length) (fun a _ => if (!badR v a) = true then .inl () else .inr (.inr (((), (), ()), ()))) (fun _ => .inl ((n, v, ()), ())) (b := ())
    (fun b i a hi ha => by
      obtain ⟨rfl, hi⟩ := range_get _ _ _ hi ha
      have e1 : decide ((a : Int) = 0) = decide (a = 0) := by rw [decide_eq_decide]; omega
      have e2 : decide (((a + 1 : Nat) : Int) = ((v.length : Nat) : Int)) = decide (a + 1 = v.length) := by rw [decide_eq_decide]; omega
      simp only [B15_0, nat_nn, nat_lt, hi, decide_true, Bool.and_self, cond_true, Int.toNat_natCast, e1, F29_eq, Option.bind_some, w64_nat (show a < 9223372036854775807 by omega), e2]
      unfold badR ctl
      simp only [show UInt8.toNat 32 = 32 from rfl]
      cases (decide ((v.getD a 0).toNat < 32) && !decide (v.getD a 0 = 9)) || decide (v.getD a 0 = 127)
      case true => rfl
      case false =>
        cases hb : bl (v.getD a 0)
        · simp only [cond_false, Bool.not_false, Bool.or_true, cond_true, Bool.false_and, Bool.or_self, ↓reduceIte]
        · by_cases he : a = 0 ∨ a + 1 = v.length
          · have he' : (decide (a = 0) || decide (a + 1 = v.length)) = true := by simpa using he
            simp only [he', Bool.or_true, Bool.true_or, Bool.not_true, cond_true, cond_false, Bool.and_self, Bool.false_eq_true, ↓reduceIte]
          · have he' : (decide (a = 0) || decide (a + 1 = v.length)) = false := by simpa using he
            have hlt : a + 1 < v.length := by omega
            simp only [hlt, nat_nn, he', decide_true, Bool.and_self, Bool.true_or, Bool.not_false, cond_true, cond_false, Bool.true_and, Bool.false_or]
            cases bl (v.getD (a + 1) 0) <;> rfl)
    (fun b => by simp only [List.length_range, B15_0, Int.lt_irrefl, decide_false, cond_false]) (by rw [List.length_range]; omega)
  rw [foldS_all] at h
  exact h

def stp16 (a : UInt8) (ws : List (List UInt8)) : List (List UInt8) :=
  if bl a = true then ws ++ [[a]] else ws.set (ws.length - 1) (ws.getD (ws.length - 1) [] ++ [a])

theorem set_last {α : Type} (l : List α) (x y : α) : (l ++ [x]).set l.length y = l ++ [y] := by
  induction l with
  | nil => rfl
  | cons a l ih => simp

theorem get_last {α : Type} (l : List α) (x d : α) : (l ++ [x]).getD l.length d = x := by
  rw [List.getD_eq_getElem?_getD, List.getElem?_append_right (Nat.le_refl _)]; simp

theorem fold16 : ∀ (v : List UInt8) (ws : List (List UInt8)) (cur : List UInt8), v.foldl (fun ws a => stp16 a ws) (ws ++ [cur]) = ws ++ ((cur ++ (w1 v).1) :: (w1 v).2)
  | [], ws, cur => by simp [w1]
  | a :: t, ws, cur => by
    have hl : (ws ++ [cur]).length - 1 = ws.length := by simp
    rw [List.foldl_cons]
    by_cases hb : bl a = true
    · have e : stp16 a (ws ++ [cur]) = (ws ++ [cur]) ++ [[a]] := by simp only [stp16, hb, ↓reduceIte]
      rw [e, fold16 t (ws ++ [cur]) [a]]
      simp [w1, hb]
    · have e : stp16 a (ws ++ [cur]) = ws ++ [cur ++ [a]] := by
        simp only [stp16, hb, Bool.false_eq_true, ↓reduceIte, hl, set_last, get_last]
      rw [e, fold16 t ws (cur ++ [a])]
      simp [w1, hb]

theorem F16_eq (v : List UInt8) (hv : v.length ≤ 2000) : F16 ((v, ()), ()) = some ((), ((([32] ++ (w1 v).1) :: (w1 v).2), ())) := by
  have hF := FUEL_big
  have h := walk_listI (f := B16_0) (fun (ws : List (List UInt8)) i => ((v, (), (i : Int), ()), (ws, ()))) v (fun a ws => .inl (stp16 a ws)) (fun ws => (((), ()), (ws, ())))
    (fun ws i => 1 ≤ ws.length ∧ ws.length ≤ i + 1 ∧ ∀ w ∈ ws, w.length ≤ i + 1) (b := [[32]])
    (fun ws i a hI hi ha => by
      obtain ⟨i1, i2, i3⟩ := hI
      left
      have hget : ∀ (l : List (List UInt8)) (j : Nat), (∀ w ∈ l, w.length ≤ i + 1) → (l.getD j []).length ≤ i + 1 := by
        intro l j hl
        rw [List.getD_eq_getElem?_getD]
        cases hh : l[j]? with
        | none => simp
        | some w => exact hl w (List.mem_of_getElem? hh)
      have hsub : List.take (i + 1 - i) (List.drop i v) = [a] := by
        rw [List.drop_eq_getElem_cons hi, show i + 1 - i = 1 by omega, List.take_succ_cons, List.take_zero]
        have := ha 0
        rw [List.getD_eq_getElem?_getD, List.getElem?_eq_getElem hi] at this
        simpa using this
      refine ⟨stp16 a ws, rfl, ?_, ?_⟩
      · unfold stp16
        split
        · refine ⟨by simp, by simp; omega, fun w hw => ?_⟩
          rcases List.mem_append.mp hw with h | h
          · have := i3 w h; omega
          · rw [List.mem_singleton] at h; subst h; simp
        · refine ⟨by simpa using i1, by rw [List.length_set]; omega, fun w hw => ?_⟩
          rcases List.mem_or_eq_of_mem_set hw with h | h
          · have := i3 w h; omega
          · subst h
            have := hget ws (ws.length - 1) i3
            rw [List.length_append, List.length_singleton]; omega
      · have hc : decide ((i : Int) ≤ ((i + 1 : Nat) : Int)) = true := by rw [decide_eq_true_eq]; omega
        have hc2 : decide (((i + 1 : Nat) : Int) ≤ ((v.length : Nat) : Int)) = true := by rw [decide_eq_true_eq]; omega
        have hby : bytesOK (ws.length + (List.length ([([]:List UInt8)]:List (List UInt8)))) 16 = true := by
          unfold bytesOK; rw [decide_eq_true_eq]; simp; omega
        simp only [B16_0, nat_nn, nat_lt, hi, decide_true, Bool.and_self, cond_true, Int.toNat_natCast, ha, F29_eq, Option.bind_some, hby, w64_nat (show i < 9223372036854775807 by omega)]
        unfold stp16
        by_cases hb : bl a = true
        · have hw : w64 ((((ws ++ [([]:List UInt8)]).length : Nat) : Int) - 1) = ((ws.length : Nat) : Int) := by
            rw [List.length_append, List.length_singleton, w64_id (by omega) (by omega)]; omega
          have hlt : ws.length < (ws ++ [([]:List UInt8)]).length := by simp
          have hfits : fits (([]:List UInt8).length + [a].length) = true := rfl
          simp only [hb, cond_true, Option.bind_some, hw, nat_nn, nat_lt, hlt, decide_true, Bool.and_self, hc, hc2, Int.toNat_natCast, hsub, get_last, hfits, set_last, List.nil_append, ↓reduceIte, w64_nat (show i < 9223372036854775807 by omega)]
        · have hb' := hb
          rw [Bool.not_eq_true] at hb'
          have hw : w64 (((ws.length : Nat) : Int) - 1) = ((ws.length - 1 : Nat) : Int) := by
            rw [w64_id (by omega) (by omega)]; omega
          have hlt : ws.length - 1 < ws.length := by omega
          have hfits : fits ((ws.getD (ws.length - 1) []).length + [a].length) = true := by
            have := hget ws (ws.length - 1) i3
            unfold fits; rw [decide_eq_true_eq, List.length_singleton]; omega
          simp only [hb', cond_false, cond_true, Option.bind_some, hw, nat_nn, nat_lt, hlt, decide_true, Bool.and_self, hc, hc2, Int.toNat_natCast, hsub, hfits, Bool.false_eq_true, ↓reduceIte, w64_nat (show i < 9223372036854775807 by omega)])
    (fun ws _ => by simp only [B16_0, Int.lt_irrefl, decide_false, cond_false]) (by omega) ⟨Nat.le_refl _, Nat.le_refl _, by simp⟩
  have h' : L16_0 ((v, (), (0:Int), ()), (([([32]:List UInt8)]:List (List UInt8)), ())) = _ := h
  simp only [F16, h', Option.bind_some]
  have hfold : ∀ (t : List UInt8) (ws : List (List UInt8)), foldS (fun a ws => (.inl (stp16 a ws) : List (List UInt8) ⊕ ((Unit × Unit) × (List (List UInt8) × Unit)))) (fun ws => (((), ()), (ws, ()))) ws t = (((), ()), (t.foldl (fun ws a => stp16 a ws) ws, ())) := by
    intro t
    induction t with
    | nil => intro ws; rfl
    | cons a t ih => intro ws; exact ih _
  rw [hfold]
  have := fold16 v [] [32]
  rw [List.nil_append] at this
  rw [this]
  rfl

theorem L15b_eq (n : List UInt8) (L : List (List UInt8)) (hL : L.length ≤ 1100002) : L15_1 ((n, (), (0:Int), ()), (L, ())) = some (if L.any (fun w => decide (901 < w.length)) then .inr (((), (), ()), ()) else .inl ((n, (), ()), (L, ()))) := by
  have hF := FUEL_big
  have h := walk_list (f := B15_1) (fun (_ : Unit) i => ((n, (), (i : Int), ()), (L, ()))) L (fun a _ => if (!decide (901 < a.length)) = true then .inl () else .inr (.inr (((), (), ()), ()))) (fun _ => .inl ((n, (), ()), (L, ()))) (b := ())
    (fun b i a hi ha => by
      have e : decide ((901:Int) < ((a.length : Nat) : Int)) = decide (901 < a.length) := by rw [decide_eq_decide]; omega
      simp only [B15_1, nat_nn, nat_lt, hi, decide_true, Bool.and_self, cond_true, Int.toNat_natCast, ha, e]
      cases decide (901 < a.length)
      · simp only [cond_false, Bool.not_false, ↓reduceIte, w64_nat (show i < 9223372036854775807 by omega)]
      · rfl)
    (fun b => by simp only [B15_1, Int.lt_irrefl, decide_false, cond_false]) (by omega)
  rw [foldS_all] at h
  have h' : L15_1 ((n, (), (0:Int), ()), (L, ())) = _ := h
  rw [h']
  have : (L.all fun a => !decide (901 < a.length)) = !(L.any fun a => decide (901 < a.length)) := by
    induction L with
    | nil => rfl
    | cons a L ih => simp only [List.all_cons, List.any_cons, Bool.not_or, Bool.and_eq_true, List.not_any_eq_all_not]
  rw [this]
  cases L.any fun a => decide (901 < a.length) <;> rfl

/-- lines of words -/
def fw : List UInt8 → List UInt8 → List (List UInt8) → List UInt8 × List UInt8
  | out, now, [] => (out, now)
  | out, now, w :: ws => if 78 < now.length + w.length then fw (out ++ now ++ [13, 10]) w ws else fw out (now ++ w) ws

def tot (ws : List (List UInt8)) : Nat := (ws.map fun w => w.length + 2).sum

theorem fw_len : ∀ (ws : List (List UInt8)) (out now : List UInt8), (fw out now ws).1.length + (fw out now ws).2.length ≤ out.length + now.length + tot ws
  | [], out, now => by simp [fw, tot]
  | w :: ws, out, now => by
    unfold fw tot
    rw [List.map_cons, List.sum_cons]
    split
    · have := fw_len ws (out ++ now ++ [13, 10]) w
      unfold tot at this
      simp only [List.length_append, List.length_cons, List.length_nil] at this
      omega
    · have := fw_len ws out (now ++ w)
      unfold tot at this
      simp only [List.length_append] at this
      omega

theorem L15c_iter (L : List (List UInt8)) : ∀ (ws : List (List UInt8)) (k i : Nat) (out now : List UInt8), i ≤ L.length → L.drop i = ws → L.length ≤ 1100002 → out.length + now.length + tot ws ≤ 100000 → ws.length < k →
    iter B15_2 k (((), out, now, (i : Int), ()), (L, ())) = some (((fw out now ws).1, (fw out now ws).2, ()), ())
  | _, 0, _, _, _, _, _, _, _, h => absurd h (Nat.not_lt_zero _)
  | [], k + 1, i, out, now, hi, hd, _, _, _ => by
    have hl : L.length ≤ i := List.drop_eq_nil_iff.mp hd
    have : decide (i < L.length) = false := by rw [decide_eq_false_iff_not]; omega
    simp only [iter, B15_2, nat_lt, this, cond_false, fw]
  | w :: ws, k + 1, i, out, now, hi, hd, hLen, htot, hk => by
    have hlt : i < L.length := by
      rcases Nat.lt_or_ge i L.length with h | h
      · exact h
      · rw [List.drop_eq_nil_iff.mpr h] at hd; cases hd
    have e := List.drop_eq_getElem_cons hlt
    rw [hd] at e
    obtain ⟨e1, e2⟩ := List.cons.inj e
    have hg : L.getD i [] = w := by rw [List.getD_eq_getElem?_getD, List.getElem?_eq_getElem hlt, e1]; rfl
    have ht : tot (w :: ws) = w.length + 2 + tot ws := by simp [tot]
    rw [ht] at htot
    have hw : w64 (((now.length : Nat) : Int) + ((w.length : Nat) : Int)) = ((now.length + w.length : Nat) : Int) := by
      rw [w64_id (by omega) (by omega)]; omega
    have hc : decide ((78:Int) < ((now.length + w.length : Nat) : Int)) = decide (78 < now.length + w.length) := by rw [decide_eq_decide]; omega
    have f1 : fits (out.length + now.length) = true := by unfold fits; rw [decide_eq_true_eq]; omega
    have f2 : fits ((out ++ now).length + ([13, 10]:List UInt8).length) = true := by unfold fits; rw [decide_eq_true_eq]; simp; omega
    have f3 : fits (([]:List UInt8).length + w.length) = true := by unfold fits; rw [decide_eq_true_eq]; simp; omega
    have f4 : fits (now.length + w.length) = true := by unfold fits; rw [decide_eq_true_eq]; omega
    simp only [iter, B15_2, nat_lt, nat_nn, hlt, decide_true, Bool.and_self, cond_true, Int.toNat_natCast, hg, hw, hc, f1, f2, fw, w64_nat (show i < 9223372036854775807 by omega)]
    by_cases h : 78 < now.length + w.length
    · have ih := L15c_iter L ws k (i + 1) (out ++ now ++ [13, 10]) w hlt e2.symm hLen (by simp only [List.length_append, List.length_cons, List.length_nil]; omega) (by simp only [List.length_cons] at hk; omega)
      simp only [h, decide_true, cond_true, Option.bind_some, nat_nn, hlt, Bool.and_self, hg, f3, ↓reduceIte, List.nil_append, Int.toNat_natCast, nat_lt, decide_true, w64_nat (show i < 9223372036854775807 by omega)]
      exact ih
    · have ih := L15c_iter L ws k (i + 1) out (now ++ w) hlt e2.symm hLen (by simp only [List.length_append]; omega) (by simp only [List.length_cons] at hk; omega)
      simp only [h, decide_false, cond_false, Option.bind_some, nat_nn, hlt, decide_true, Bool.and_self, cond_true, hg, f4, ↓reduceIte, Int.toNat_natCast, nat_lt, w64_nat (show i < 9223372036854775807 by omega)]
      exact ih

def lines (n v : List UInt8) : List UInt8 :=
  (fw [] (n ++ [58] ++ ([32] ++ (w1 v).1)) (w1 v).2).1 ++ (fw [] (n ++ [58] ++ ([32] ++ (w1 v).1)) (w1 v).2).2 ++ [13, 10]

def fold (n v : List UInt8) : (List UInt8 × Int × Unit) :=
  if rn n = true then
    (if okv v = true then (if 1024 < v.length ∨ lng v = true then ([], 6, ()) else (lines n v, 0, ())) else ([], 4, ()))
  else ([], 4, ())

theorem tot_le : ∀ ws : List (List UInt8), (∀ w ∈ ws, wordOK w) → tot ws ≤ 3 * ws.flatten.length
  | [], _ => Nat.le_refl _
  | w :: ws, h => by
    have ih := tot_le ws fun x hx => h x (List.mem_cons_of_mem _ hx)
    obtain ⟨b, t, rfl, _, _⟩ := h w (List.mem_cons_self ..)
    simp only [tot, List.map_cons, List.sum_cons, List.flatten_cons, List.length_append, List.length_cons] at *
    omega

theorem ws_len : ∀ ws : List (List UInt8), (∀ w ∈ ws, wordOK w) → ws.length ≤ ws.flatten.length
  | [], _ => Nat.le_refl _
  | w :: ws, h => by
    have ih := ws_len ws fun x hx => h x (List.mem_cons_of_mem _ hx)
    obtain ⟨b, t, rfl, _, _⟩ := h w (List.mem_cons_self ..)
    simp only [List.flatten_cons, List.length_append, List.length_cons] at *
    omega

theorem w1_lens (v : List UInt8) : (w1 v).1.length + (w1 v).2.flatten.length = v.length := by
  conv => rhs; rw [w1_join v]
  rw [List.length_append]

theorem F15_eq (n v : List UInt8) (hn : n.length ≤ 9223372036854775807) (hv : v.length ≤ 9223372036854775807) : F15 ((n, v, ()), ()) = some (fold n v, ()) := by
  have hF := FUEL_big
  simp only [F15, F31_eq n hn, Option.bind_some, fold]
  by_cases hrn : rn n = true
  case neg =>
    rw [Bool.not_eq_true] at hrn
    simp only [hrn, Bool.not_false, cond_true, Bool.false_eq_true, ↓reduceIte]
  simp only [hrn, Bool.not_true, cond_false, ↓reduceIte, L15a_eq n v hv]
  by_cases hok : okv v = true
  case neg =>
    rw [Bool.not_eq_true] at hok
    simp only [hok, Bool.false_eq_true, ↓reduceIte, Option.bind_some]
  have e : decide ((1024:Int) < ((v.length : Nat) : Int)) = decide (1024 < v.length) := by rw [decide_eq_decide]; omega
  simp only [hok, ↓reduceIte, Option.bind_some, e]
  by_cases hlen : 1024 < v.length
  · simp only [hlen, decide_true, cond_true, true_or, ↓reduceIte]
  have hl := w1_lens v
  have h1 := ws_len _ (w1_snd v)
  have h2 := tot_le _ (w1_snd v)
  have hn24 : n.length ≤ 24 := by
    unfold rn at hrn
    simp only [Bool.and_eq_true, decide_eq_true_eq] at hrn
    exact hrn.2.2
  simp only [hlen, decide_false, cond_false, false_or, F16_eq v (by omega), Option.bind_some]
  have e15 := L15b_eq n (([32] ++ (w1 v).1) :: (w1 v).2) (by simp only [List.length_cons]; omega)
  have hany : (([32] ++ (w1 v).1) :: (w1 v).2).any (fun w => decide (901 < w.length)) = lng v := by
    rw [List.any_cons]
    unfold lng
    congr 1
    rw [decide_eq_decide, List.length_append, List.length_singleton]
    omega
  rw [hany] at e15
  simp only [e15]
  cases hlng : lng v
  case true => rfl
  have c1 : decide ((0:Int) < (((([32] ++ (w1 v).1) :: (w1 v).2).length : Nat) : Int)) = true := by rw [decide_eq_true_eq, List.length_cons]; omega
  have hg : ((([32] ++ (w1 v).1) :: (w1 v).2).getD 0 ([]:List UInt8)) = [32] ++ (w1 v).1 := rfl
  have f1 : fits (n.length + ([58]:List UInt8).length) = true := by unfold fits; rw [decide_eq_true_eq]; simp; omega
  have f2 : fits ((n ++ [58]).length + ([32] ++ (w1 v).1).length) = true := by
    unfold fits; rw [decide_eq_true_eq]; simp only [List.length_append, List.length_cons, List.length_nil]; omega
  have hloop : L15_2 (((), ([]:List UInt8), (n ++ [58] ++ ([32] ++ (w1 v).1)), (1:Int), ()), ((([32] ++ (w1 v).1) :: (w1 v).2), ())) = _ :=
    L15c_iter (([32] ++ (w1 v).1) :: (w1 v).2) (w1 v).2 FUEL 1 [] (n ++ [58] ++ ([32] ++ (w1 v).1)) (by simp) rfl (by simp only [List.length_cons]; omega)
      (by simp only [List.length_append, List.length_cons, List.length_nil]; omega) (by omega)
  have hfl := fw_len (w1 v).2 [] (n ++ [58] ++ ([32] ++ (w1 v).1))
  simp only [List.length_append, List.length_cons, List.length_nil] at hfl
  simp only [Bool.false_eq_true, ↓reduceIte, Option.bind_some, f1, c1, cond_true, hg, f2, hloop]
  unfold lines
  generalize fw [] (n ++ [58] ++ ([32] ++ (w1 v).1)) (w1 v).2 = o at *
  have f3 : fits (o.1.length + o.2.length) = true := by unfold fits; rw [decide_eq_true_eq]; omega
  have f4 : fits ((o.1 ++ o.2).length + ([13, 10]:List UInt8).length) = true := by
    unfold fits; rw [decide_eq_true_eq]; simp only [List.length_append, List.length_cons, List.length_nil]; omega
  simp only [f3, f4, cond_true]

/-! ### the program's answer -/
theorem L35_iter (c : UInt8) (r : List UInt8) (hr : ∀ d, r.head? = some d → bl d = true) : ∀ (t p : List UInt8) (k : Nat), (∀ x ∈ t, bl x = false) → p.length + t.length + r.length ≤ 1000000 → t.length < k →
    iter B35_0 k (((), ((p.length + 1 : Nat) : Int), ()), ((c :: (p ++ t ++ r), ()), ())) = some (((), ((p.length + t.length + 1 : Nat) : Int), ()), ((c :: (p ++ t ++ r), ()), ()))
  | _, _, 0, _, _, h => absurd h (Nat.not_lt_zero _)
  | [], p, k + 1, _, hlen, _ => by
    cases r with
    | nil =>
      have hl : (c :: (p ++ [] ++ [])).length = p.length + 1 := by simp
      have d1 : decide (p.length + 1 < (c :: (p ++ [] ++ [])).length) = false := by rw [hl]; simp
      simp only [iter, B35_0, nat_nn, nat_lt, d1, Bool.and_false, Bool.not_false, Bool.or_true, cond_true, cond_false, List.length_nil, Nat.add_zero]
    | cons d r =>
      have hl : (c :: (p ++ [] ++ d :: r)).length = p.length + 1 + (r.length + 1) := by simp; omega
      have d1 : decide (p.length + 1 < (c :: (p ++ [] ++ d :: r)).length) = true := by rw [hl, decide_eq_true_eq]; omega
      have hg : (c :: (p ++ [] ++ d :: r)).getD (p.length + 1) 0 = d := by
        rw [List.getD_cons_succ, List.append_nil, List.getD_eq_getElem?_getD, List.getElem?_append_right (Nat.le_refl _)]; simp
      have hb := hr d rfl
      simp only [iter, B35_0, nat_nn, nat_lt, d1, Bool.and_self, Bool.true_or, cond_true, Int.toNat_natCast, hg, F25_eq, hb, Option.bind_some, Bool.not_true, cond_false, List.length_nil, Nat.add_zero]
  | x :: t, p, k + 1, ht, hlen, hk => by
    have hl : (c :: (p ++ x :: t ++ r)).length = p.length + 1 + (t.length + 1 + r.length) := by simp; omega
    have d1 : decide (p.length + 1 < (c :: (p ++ x :: t ++ r)).length) = true := by rw [hl, decide_eq_true_eq]; omega
    have hg : (c :: (p ++ x :: t ++ r)).getD (p.length + 1) 0 = x := by
      rw [List.getD_cons_succ, List.append_assoc, List.getD_eq_getElem?_getD, List.getElem?_append_right (Nat.le_refl _)]; simp
    have hb := ht x (List.mem_cons_self ..)
    simp only [List.length_cons] at hlen hk
    simp only [iter, B35_0, nat_nn, nat_lt, d1, Bool.and_self, Bool.true_or, cond_true, Int.toNat_natCast, hg, F25_eq, hb, Option.bind_some, Bool.not_false, w64_nat (show p.length + 1 < 9223372036854775807 by omega)]
    have ih := L35_iter c r hr t (p ++ [x]) k (fun y hy => ht y (List.mem_cons_of_mem _ hy)) (by rw [List.length_append, List.length_singleton]; omega) (by omega)
    have e1 : p ++ [x] ++ t ++ r = p ++ x :: t ++ r := by simp
    have e2 : (p ++ [x]).length = p.length + 1 := by simp
    rw [e1, e2] at ih
    rw [ih, List.length_cons, show p.length + 1 + t.length + 1 = p.length + (t.length + 1) + 1 by omega]

theorem F35_eq (c : UInt8) (t r : List UInt8) (ht : ∀ x ∈ t, bl x = false) (hr : ∀ d, r.head? = some d → bl d = true) (hlen : t.length + r.length ≤ 1000000) :
    F35 (((), ()), ((c :: t ++ r, ()), ())) = some (c :: t, ((r, ()), ())) := by
  have hF := FUEL_big
  have h : L35_0 (((), (1:Int), ()), ((c :: (t ++ r), ()), ())) = _ := L35_iter c r hr t [] FUEL ht (by simpa using hlen) (by omega)
  have hl : (c :: (t ++ r)).length = t.length + 1 + r.length := by simp; omega
  have d1 : decide (((t.length + 1 : Nat) : Int) ≤ ((((c :: (t ++ r)).length) : Nat) : Int)) = true := by rw [hl, decide_eq_true_eq]; omega
  have e1 : List.take (t.length + 1) (c :: (t ++ r)) = c :: t := by simp
  have e2 : List.drop (t.length + 1) (c :: (t ++ r)) = r := by simp
  have e3 : List.take ((c :: (t ++ r)).length - (t.length + 1)) r = r := by rw [hl]; exact List.take_of_length_le (by omega)
  rw [List.cons_append]
  simp only [F35, h, Option.bind_some, List.nil_append, List.length_nil, Nat.zero_add, nat_nn, d1, Int.le_refl, decide_true, Bool.and_self, cond_true, Int.toNat_natCast, e1, e2, e3]

theorem flat_head (ws : List (List UInt8)) (h : ∀ w ∈ ws, wordOK w) : ∀ d, ws.flatten.head? = some d → bl d = true := by
  cases ws with
  | nil => intro d hd; cases hd
  | cons w ws =>
    obtain ⟨b, t, rfl, hb, _⟩ := h w (List.mem_cons_self ..)
    intro d hd
    simp at hd
    rw [← hd]
    exact hb

theorem L14_iter : ∀ (ws : List (List UInt8)) (k : Nat) (out now : List UInt8), (∀ w ∈ ws, wordOK w) → out.length + now.length + tot ws ≤ 100000 → ws.flatten.length ≤ 100000 → ws.length < k →
    iter B14_0 k ((out ++ now, ((now.length : Nat) : Int), false, (), ((), ()), ()), ((ws.flatten, ()), ())) = some ((((fw out now ws).1 ++ (fw out now ws).2), ()), ())
  | _, 0, _, _, _, _, _, h => absurd h (Nat.not_lt_zero _)
  | [], k + 1, out, now, _, _, _, _ => by
    simp only [iter, B14_0, List.flatten_nil, decide_true, Bool.not_true, cond_false, fw]
  | w :: ws, k + 1, out, now, hw, htot, hfl, hk => by
    have hr := flat_head ws fun x hx => hw x (List.mem_cons_of_mem _ hx)
    obtain ⟨c, t, rfl, hc, ht⟩ := hw w (List.mem_cons_self ..)
    have htt : tot ((c :: t) :: ws) = (c :: t).length + 2 + tot ws := by simp [tot]
    rw [htt] at htot
    simp only [List.flatten_cons, List.length_append, List.length_cons] at hfl htot hk
    have e := F35_eq c t ws.flatten ht hr (by omega)
    have hne : decide ((c :: t) ++ ws.flatten = []) = false := by simp
    have hs : w64 (((now.length : Nat) : Int) + (((c :: t).length : Nat) : Int)) = ((now.length + (c :: t).length : Nat) : Int) := by
      rw [List.length_cons, w64_id (by omega) (by omega)]; omega
    have hd : decide ((78:Int) < ((now.length + (c :: t).length : Nat) : Int)) = decide (78 < now.length + (c :: t).length) := by rw [decide_eq_decide]; omega
    simp only [iter, B14_0, List.flatten_cons, hne, Bool.not_false, cond_true, e, Option.bind_some, hs, hd, Bool.and_true, fw]
    have f2 : fits ((out ++ now).length + ([13, 10]:List UInt8).length) = true := by unfold fits; rw [decide_eq_true_eq]; simp; omega
    by_cases h : 78 < now.length + (c :: t).length
    · have ih := L14_iter ws k (out ++ now ++ [13, 10]) (c :: t) (fun x hx => hw x (List.mem_cons_of_mem _ hx)) (by simp only [List.length_append, List.length_cons, List.length_nil]; omega) (by omega) (by omega)
      have f3 : fits ((out ++ now ++ [13, 10]).length + (c :: t).length) = true := by unfold fits; rw [decide_eq_true_eq]; simp; omega
      have hz : w64 ((0:Int) + (((c :: t).length : Nat) : Int)) = (((c :: t).length : Nat) : Int) := by rw [Int.zero_add, List.length_cons]; exact w64_id (by omega) (by omega)
      simp only [h, decide_true, cond_true, f2, Option.bind_some, f3, hz, ↓reduceIte]
      exact ih
    · have ih := L14_iter ws k out (now ++ (c :: t)) (fun x hx => hw x (List.mem_cons_of_mem _ hx)) (by simp only [List.length_append, List.length_cons]; omega) (by omega) (by omega)
      have f3 : fits ((out ++ now).length + (c :: t).length) = true := by unfold fits; rw [decide_eq_true_eq]; simp; omega
      simp only [h, decide_false, cond_false, Option.bind_some, f3, cond_true, hs, ↓reduceIte]
      rw [List.append_assoc]
      rw [List.length_append] at ih
      exact ih

theorem F14_eq (n v : List UInt8) (hn : n.length ≤ 9223372036854775807) (hv : v.length ≤ 9223372036854775807) : F14 ((n, v, ()), ()) = some (fold n v, ()) := by
  have hF := FUEL_big
  simp only [F14, F27_eq n hn, Option.bind_some, fold]
  by_cases hrn : rn n = true
  case neg =>
    rw [Bool.not_eq_true] at hrn
    simp only [hrn, Bool.not_false, cond_true, Bool.false_eq_true, ↓reduceIte]
  simp only [hrn, Bool.not_true, cond_false, ↓reduceIte, F34_eq v hv, Option.bind_some]
  by_cases hok : okv v = true
  case neg =>
    rw [Bool.not_eq_true] at hok
    simp only [hok, Bool.false_eq_true, ↓reduceIte, show decide ((4:Int) = 0) = false from rfl, Bool.not_false, cond_true]
  simp only [hok, ↓reduceIte]
  by_cases hbig : 1024 < v.length ∨ lng v = true
  · simp only [hbig, ↓reduceIte, show decide ((6:Int) = 0) = false from rfl, Bool.not_false, cond_true]
  have hlen : v.length ≤ 1024 := by omega
  have hl := w1_lens v
  have h1 := ws_len _ (w1_snd v)
  have h2 := tot_le _ (w1_snd v)
  have hn24 : n.length ≤ 24 := by
    unfold rn at hrn
    simp only [Bool.and_eq_true, decide_eq_true_eq] at hrn
    exact hrn.2.2
  have f1 : fits (n.length + ([58]:List UInt8).length) = true := by unfold fits; rw [decide_eq_true_eq]; simp; omega
  have f2 : fits (([32]:List UInt8).length + v.length) = true := by unfold fits; rw [decide_eq_true_eq]; simp; omega
  simp only [hbig, ↓reduceIte, decide_true, Bool.not_true, cond_false, f1, f2, cond_true]
  have hloop : L14_0 (((n ++ [58]), (((n ++ ([58]:List UInt8)).length : Nat) : Int), true, (), ((), ()), ()), ((([32] ++ v), ()), ())) = some ((((fw [] (n ++ [58] ++ ([32] ++ (w1 v).1)) (w1 v).2).1 ++ (fw [] (n ++ [58] ++ ([32] ++ (w1 v).1)) (w1 v).2).2), ()), ()) := by
    obtain ⟨k, hk⟩ : ∃ k, FUEL = k + 1 := ⟨FUEL - 1, by omega⟩
    show loopOf B14_0 _ = _
    unfold loopOf
    rw [hk]
    have e := F35_eq 32 (w1 v).1 (w1 v).2.flatten (w1_fst v) (flat_head _ (w1_snd v)) (by omega)
    have hj : ([32] ++ v) = 32 :: (w1 v).1 ++ (w1 v).2.flatten := by
      show 32 :: v = 32 :: ((w1 v).1 ++ (w1 v).2.flatten)
      rw [← w1_join v]
    rw [hj]
    have hne : decide ((32 :: (w1 v).1) ++ (w1 v).2.flatten = []) = false := by simp
    have f3 : fits ((n ++ [58]).length + (32 :: (w1 v).1).length) = true := by
      unfold fits; rw [decide_eq_true_eq]; simp only [List.length_append, List.length_cons, List.length_nil]; omega
    have hs : w64 ((((n ++ ([58]:List UInt8)).length : Nat) : Int) + (((32 :: (w1 v).1).length : Nat) : Int)) = (((n ++ [58] ++ ([32] ++ (w1 v).1)).length : Nat) : Int) := by
      simp only [List.length_append, List.length_cons, List.length_nil]
      rw [w64_id (by omega) (by omega)]; omega
    simp only [iter, B14_0, hne, Bool.not_false, cond_true, e, Option.bind_some, Bool.not_true, Bool.and_false, cond_false, f3, hs]
    exact L14_iter (w1 v).2 k [] (n ++ [58] ++ ([32] ++ (w1 v).1)) (w1_snd v) (by simp only [List.length_append, List.length_cons, List.length_nil]; omega) (by omega) (by omega)
  have hfl := fw_len (w1 v).2 [] (n ++ [58] ++ ([32] ++ (w1 v).1))
  simp only [List.length_append, List.length_cons, List.length_nil] at hfl
  simp only [hloop, Option.bind_some]
  unfold lines
  generalize fw [] (n ++ [58] ++ ([32] ++ (w1 v).1)) (w1 v).2 = o at *
  have f4 : fits ((o.1 ++ o.2).length + ([13, 10]:List UInt8).length) = true := by
    unfold fits; rw [decide_eq_true_eq]; simp only [List.length_append, List.length_cons, List.length_nil]; omega
  simp only [f4, cond_true]

theorem law4 (n v : List UInt8) (hn : n.length ≤ 9223372036854775807) (hv : v.length ≤ 9223372036854775807) : F4 ((n, v, ()), ()) = some (true, ()) := by
  simp only [F4, F4a, F14_eq n v hn hv, F15_eq n v hn hv, live12, Option.bind_some, decide_true, Bool.and_self]

end Go.Hd
