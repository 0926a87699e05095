/- Names of fields; what may be folded; words. -/
import Derived.Test.YtppghnjcgliekaaDoorHd3
import Derived.Lib.FieldsP
import Derived.Lib.SpaceUEq
namespace Go.Hd
open Go Go.Ev
set_option maxRecDepth 100000

/-! ### a field's name -/
def nmc (c : UInt8) : Bool := !((decide (c.toNat < 33) || decide (126 < c.toNat)) || decide (c = 58))

def rn (s : List UInt8) : Bool := s.all nmc && (decide (1 ≤ s.length) && decide (s.length ≤ 24))

theorem F31_eq (s : List UInt8) (hs : s.length ≤ 9223372036854775807) : F31 ((s, ()), ()) = some (rn s, ()) := by
  have hF : (9223372036854775807 : Nat) < FUEL := by unfold FUEL; omega
  have h := walk_list (f := B31_0) (fun (_ : Unit) i => ((s, (i : Int), ()), ())) s (fun a _ => if nmc a = true then .inl () else .inr (.inr (((), ()), ()))) (fun _ => .inl ((s, ()), ())) (b := ())
    (fun b i a hi ha => by
      simp only [B31_0, nat_nn, nat_lt, hi, decide_true, Bool.and_self, Bool.true_or, cond_true, Int.toNat_natCast, ha, show UInt8.toNat 33 = 33 from rfl, show UInt8.toNat 126 = 126 from rfl]
      unfold nmc
      cases ((decide (a.toNat < 33) || decide (126 < a.toNat)) || decide (a = 58))
      · simp only [cond_false, Bool.not_false, ↓reduceIte, w64_nat (show i < 9223372036854775807 by omega)]
      · simp only [cond_true, Bool.not_true, Bool.false_eq_true, ↓reduceIte])
    (fun b => by simp only [B31_0, Int.lt_irrefl, decide_false, cond_false]) (by omega)
  rw [foldS_all] at h
  have h' : L31_0 ((s, (0:Int), ()), ()) = _ := h
  simp only [F31, h', rn]
  cases s.all nmc
  · simp only [Bool.false_eq_true, ↓reduceIte, Option.bind_some, Bool.false_and]
  · have e1 : decide ((1:Int) ≤ ((s.length : Nat) : Int)) = decide (1 ≤ s.length) := by rw [decide_eq_decide]; omega
    have e2 : decide (((s.length : Nat) : Int) ≤ 24) = decide (s.length ≤ 24) := by rw [decide_eq_decide]; omega
    simp only [↓reduceIte, Option.bind_some, Bool.true_and, e1, e2]

theorem F27_eq (s : List UInt8) (hs : s.length ≤ 9223372036854775807) : F27 ((s, ()), ()) = some (rn s, ()) := by
  have hF : (9223372036854775807 : Nat) < FUEL := by unfold FUEL; omega
  have h := walk_list (f := B27_0) (fun (_ : Unit) i => ((s, (s.length : Int), (i : Int), ()), ())) s (fun a _ => if nmc a = true then .inl () else .inr (.inr (((), ()), ()))) (fun _ => .inl ((s, ()), ())) (b := ())
    (fun b i a hi ha => by
      simp only [B27_0, nat_nn, nat_lt, hi, decide_true, Bool.and_self, Bool.true_or, cond_true, Int.toNat_natCast, ha, show UInt8.toNat 33 = 33 from rfl, show UInt8.toNat 126 = 126 from rfl]
      unfold nmc
      cases ((decide (a.toNat < 33) || decide (126 < a.toNat)) || decide (a = 58))
      · simp only [cond_false, Bool.not_false, ↓reduceIte, w64_nat (show i < 9223372036854775807 by omega)]
      · simp only [cond_true, Bool.not_true, Bool.false_eq_true, ↓reduceIte])
    (fun b => by simp only [B27_0, Int.lt_irrefl, decide_false, cond_false]) (by omega)
  rw [foldS_all] at h
  have h' : L27_0 ((s, (s.length : Int), (0:Int), ()), ()) = _ := h
  simp only [F27, h', rn]
  cases s.all nmc
  · simp only [Bool.false_eq_true, ↓reduceIte, Option.bind_some, Bool.false_and]
  · have e2 : decide (((s.length : Nat) : Int) ≤ 24) = decide (s.length ≤ 24) := by rw [decide_eq_decide]; omega
    have e1 : (!decide (s = [])) = decide (1 ≤ s.length) := by cases s <;> simp
    simp only [↓reduceIte, Option.bind_some, Bool.true_and, e1, e2]

/-! ### words -/
/-- the letters up to the first blank, and the words behind them, each with its blank -/
def w1 : List UInt8 → List UInt8 × List (List UInt8)
  | [] => ([], [])
  | c :: t => if bl c = true then ([], (c :: (w1 t).1) :: (w1 t).2) else (c :: (w1 t).1, (w1 t).2)

theorem w1_pre : ∀ (a b : List UInt8), (∀ x ∈ a, bl x = false) → w1 (a ++ b) = (a ++ (w1 b).1, (w1 b).2)
  | [], _, _ => rfl
  | x :: a, b, h => by
    have ih := w1_pre a b fun y hy => h y (List.mem_cons_of_mem _ hy)
    have hx := h x (List.mem_cons_self ..)
    simp only [List.cons_append, w1, hx, Bool.false_eq_true, ↓reduceIte, ih]

theorem w1_join : ∀ l : List UInt8, l = (w1 l).1 ++ (w1 l).2.flatten
  | [] => rfl
  | c :: t => by
    have ih := w1_join t
    unfold w1
    split
    · simp only [List.nil_append, List.flatten_cons, List.cons_append]
      rw [← ih]
    · simp only [List.cons_append]
      rw [← ih]

theorem w1_fst : ∀ l : List UInt8, ∀ x ∈ (w1 l).1, bl x = false
  | [], x, h => by cases h
  | c :: t, x, h => by
    unfold w1 at h
    split at h
    · cases h
    · next hc =>
      rcases List.mem_cons.mp h with rfl | h
      · simpa using hc
      · exact w1_fst t x h

def wordOK (w : List UInt8) : Prop := ∃ b t, w = b :: t ∧ bl b = true ∧ ∀ x ∈ t, bl x = false

theorem w1_snd : ∀ l : List UInt8, ∀ w ∈ (w1 l).2, wordOK w
  | [], x, h => by cases h
  | c :: t, x, h => by
    unfold w1 at h
    split at h
    · next hc =>
      rcases List.mem_cons.mp h with rfl | h
      · exact ⟨c, _, rfl, hc, w1_fst t⟩
      · exact w1_snd t x h
    · exact w1_snd t x h

/-- a word that is too long -/
def lng (v : List UInt8) : Bool := decide (900 < (w1 v).1.length) || (w1 v).2.any fun w => decide (901 < w.length)

def longs (acc : List (Nat × Nat)) : Bool := acc.any fun x => decide (900 < x.2 - x.1)

theorem cont_not (c : UInt8) (h : c.toNat / 64 = 2) : bl c = false := by
  unfold bl
  rw [Bool.or_eq_false_iff, decide_eq_false_iff_not, decide_eq_false_iff_not]
  constructor
  · rintro rfl
    revert h
    decide
  · rintro rfl
    revert h
    decide

theorem rune_bl (l : List UInt8) (b : UInt8) (t : List UInt8) (hl : l = b :: t) : blank50 (Lib.decodeL l).1 = bl b ∧ (bl b = true → (Lib.decodeL l).2 = 1) ∧ 1 ≤ (Lib.decodeL l).2 ∧ (Lib.decodeL l).2 ≤ l.length ∧ (bl b = false → ∀ x ∈ l.take (Lib.decodeL l).2, bl x = false) := by
  subst hl
  have hw := Lib.decodeL_width (b :: t)
  by_cases hb : b.toNat < 128
  · rw [Lib.decodeL_ascii b t hb]
    refine ⟨?_, fun _ => rfl, Nat.le_refl _, by simp, fun h x hx => ?_⟩
    · unfold blank50 bl
      have e1 : (b.toNat == 32) = decide (b = 32) := by
        rw [Bool.eq_iff_iff, beq_iff_eq, decide_eq_true_eq, ← UInt8.toNat_inj]; rfl
      have e2 : (b.toNat == 9) = decide (b = 9) := by
        rw [Bool.eq_iff_iff, beq_iff_eq, decide_eq_true_eq, ← UInt8.toNat_inj]; rfl
      rw [← e1, ← e2]
    · simp only [List.take_succ_cons, List.take_zero, List.mem_singleton] at hx
      rw [hx]; exact h
  · have hbig := dec_big (t := t) (Nat.le_of_not_lt hb)
    have hbb : bl b = false := by
      unfold bl
      rw [Bool.or_eq_false_iff, decide_eq_false_iff_not, decide_eq_false_iff_not]
      constructor
      · rintro rfl
        exact hb (by decide)
      · rintro rfl
        exact hb (by decide)
    have hc := Lib.decodeN_conts (b :: t).length ((b :: t).getD 0 0).toNat ((b :: t).getD 1 0).toNat ((b :: t).getD 2 0).toNat ((b :: t).getD 3 0).toNat
    rw [← Lib.decodeL_N] at hc
    obtain ⟨c2, c3, c4, c5⟩ := hc
    have hlen : (Lib.decodeL (b :: t)).2 ≤ (b :: t).length := Lib.decodeL_le _ (by simp)
    refine ⟨?_, (fun h => absurd h (by rw [hbb]; decide)), hw, hlen, fun _ x hx => ?_⟩
    · rw [hbb]
      unfold blank50
      rw [Bool.or_eq_false_iff, beq_eq_false_iff_ne, beq_eq_false_iff_ne]
      omega
    · obtain ⟨j, hj, rfl⟩ := List.mem_iff_getElem.mp hx
      have hj' : j < (Lib.decodeL (b :: t)).2 := by rw [List.length_take] at hj; omega
      rw [List.getElem_take]
      have hg : ∀ (h : j < (b :: t).length), (b :: t)[j] = (b :: t).getD j 0 := fun h => by rw [List.getD_eq_getElem?_getD, List.getElem?_eq_getElem h]; rfl
      rw [hg (by omega)]
      match j, hj' with
      | 0, _ => exact hbb
      | 1, h => exact cont_not _ (c2 (by omega)).1
      | 2, h => exact cont_not _ (c3 (by omega)).1
      | 3, h => exact cont_not _ (c4 (by omega)).1
      | j + 4, h => omega

theorem longs_snoc (acc : List (Nat × Nat)) (a b : Nat) : longs (acc ++ [(a, b)]) = (longs acc || decide (900 < b - a)) := by
  simp [longs]

/-- letters behind which a word is open -/
def opn (st : Option Nat) (pos : Nat) : Nat := match st with
  | some a => pos - a
  | none => 0

theorem spans_long (v : List UInt8) : ∀ (f pos : Nat) (st : Option Nat) (acc : List (Nat × Nat)), v.length ≤ pos + f → pos ≤ v.length → (∀ a, st = some a → a ≤ pos) →
    longs (Lib.closeSpans ⟨v.toArray⟩ (Lib.spansFromP blank50 ⟨v.toArray⟩ f pos st acc)) = (longs acc || (decide (900 < opn st pos + (w1 (v.drop pos)).1.length) || (w1 (v.drop pos)).2.any fun w => decide (901 < w.length)))
  | 0, pos, st, acc, h1, h2, h3 => by
    obtain rfl : pos = v.length := by omega
    have hsz : (⟨v.toArray⟩ : ByteArray).size = v.length := rfl
    rw [List.drop_length]
    simp only [w1, List.length_nil, Nat.add_zero, List.any_nil, Bool.or_false, Lib.spansFromP, Lib.closeSpans, hsz, opn]
    cases st with
    | none => simp
    | some a => simp only [longs_snoc]; rfl
  | f + 1, pos, st, acc, h1, h2, h3 => by
    have hsz : (⟨v.toArray⟩ : ByteArray).size = v.length := rfl
    by_cases hlt : pos < v.length
    · have hd := List.drop_eq_getElem_cons hlt
      generalize v[pos] = b at hd
      obtain ⟨r1, r2, r3, r4, r5⟩ := rune_bl (v.drop pos) b _ hd
      rw [← dec_at hlt] at r1 r2 r3 r4 r5
      unfold Lib.spansFromP
      rw [hsz, if_pos hlt, r1]
      generalize hdec : Utf8.decode ⟨v.toArray⟩ pos = d at *
      obtain ⟨dr, dw⟩ := d
      simp only at *
      rw [List.length_drop] at r4
      by_cases hb : bl b = true
      · have hw := r2 hb
        subst hw
        rw [hd]
        have e : w1 (b :: v.drop (pos + 1)) = ([], (b :: (w1 (v.drop (pos + 1))).1) :: (w1 (v.drop (pos + 1))).2) := by simp only [w1, hb, ↓reduceIte]
        rw [e]
        simp only [hb, ↓reduceIte, List.length_nil, Nat.add_zero, List.any_cons, List.length_cons]
        have q : decide (901 < (w1 (v.drop (pos + 1))).1.length + 1) = decide (900 < 0 + (w1 (v.drop (pos + 1))).1.length) := by rw [decide_eq_decide]; omega
        rw [q]
        cases st with
        | none =>
          simp only
          rw [spans_long v f (pos + 1) none acc (by omega) (by omega) (fun a h => by cases h)]
          simp [opn]
        | some a =>
          simp only
          rw [spans_long v f (pos + 1) none _ (by omega) (by omega) (fun a h => by cases h), longs_snoc]
          simp only [opn, Bool.or_assoc]
          rfl
      · rw [Bool.not_eq_true] at hb
        have hnb := r5 hb
        have hsplit : v.drop pos = (v.drop pos).take dw ++ v.drop (pos + dw) := by
          rw [← List.drop_drop, List.take_append_drop]
        have e : w1 (v.drop pos) = ((v.drop pos).take dw ++ (w1 (v.drop (pos + dw))).1, (w1 (v.drop (pos + dw))).2) := by
          conv => lhs; rw [hsplit]
          exact w1_pre _ _ hnb
        have hl : ((v.drop pos).take dw).length = dw := by rw [List.length_take, List.length_drop]; omega
        rw [e]
        simp only [hb, Bool.false_eq_true, ↓reduceIte, List.length_append, hl]
        cases st with
        | none =>
          simp only
          rw [spans_long v f (pos + dw) (some pos) acc (by omega) (by omega) (fun a h => by cases h; omega)]
          have : opn (some pos) (pos + dw) + (w1 (v.drop (pos + dw))).1.length = opn none pos + (dw + (w1 (v.drop (pos + dw))).1.length) := by unfold opn; simp only; omega
          rw [this]
        | some a =>
          have ha := h3 a rfl
          simp only
          rw [spans_long v f (pos + dw) (some a) acc (by omega) (by omega) (fun x h => by cases h; omega)]
          have : opn (some a) (pos + dw) + (w1 (v.drop (pos + dw))).1.length = opn (some a) pos + (dw + (w1 (v.drop (pos + dw))).1.length) := by unfold opn; simp only; omega
          rw [this]
    · obtain rfl : pos = v.length := by omega
      rw [Lib.spansFromP_end _ _ _ _ _ _ (by rw [hsz]; omega), List.drop_length]
      simp only [w1, List.length_nil, Nat.add_zero, List.any_nil, Bool.or_false, Lib.closeSpans, hsz, opn]
      cases st with
      | none => simp
      | some a => simp only [longs_snoc]; rfl

theorem spans_in (v : List UInt8) : ∀ (f pos : Nat) (st : Option Nat) (acc : List (Nat × Nat)), pos ≤ v.length → (∀ a, st = some a → a ≤ pos) → (∀ x ∈ acc, x.2 ≤ v.length) →
    ∀ x ∈ Lib.closeSpans ⟨v.toArray⟩ (Lib.spansFromP blank50 ⟨v.toArray⟩ f pos st acc), x.2 ≤ v.length
  | 0, pos, st, acc, h1, h2, h3 => by
    intro x hx
    cases st with
    | none => exact h3 x hx
    | some a =>
      simp only [Lib.spansFromP, Lib.closeSpans, List.mem_append, List.mem_singleton] at hx
      rcases hx with h | rfl
      · exact h3 x h
      · exact Nat.le_refl _
  | f + 1, pos, st, acc, h1, h2, h3 => by
    have hsz : (⟨v.toArray⟩ : ByteArray).size = v.length := rfl
    unfold Lib.spansFromP
    rw [hsz]
    by_cases hlt : pos < v.length
    · rw [if_pos hlt]
      have hd := List.drop_eq_getElem_cons hlt
      obtain ⟨_, _, _, r4, _⟩ := rune_bl (v.drop pos) _ _ hd
      rw [← dec_at hlt, List.length_drop] at r4
      split
      · cases st with
        | none => exact spans_in v f _ none acc (by omega) (fun a h => by cases h) h3
        | some a =>
          exact spans_in v f _ none _ (by omega) (fun a h => by cases h) (fun x hx => by
            rcases List.mem_append.mp hx with h | h
            · exact h3 x h
            · rw [List.mem_singleton] at h
              subst h
              exact h1)
      · cases st with
        | none => exact spans_in v f _ (some pos) acc (by omega) (fun a h => by cases h; omega) h3
        | some a => exact spans_in v f _ (some a) acc (by omega) (fun x h => by have := h2 a rfl; cases h; omega) h3
    · rw [if_neg hlt]
      intro x hx
      cases st with
      | none => exact h3 x hx
      | some a =>
        simp only [Lib.closeSpans, List.mem_append, List.mem_singleton] at hx
        rcases hx with h | rfl
        · exact h3 x h
        · exact Nat.le_refl _

/-- the fields of a text: one is too long just if a word is -/
theorem fields_long (v : List UInt8) : ((Lib.goFieldsP blank50 ⟨v.toArray⟩).map fun x => x.data.toList).any (fun w => decide (900 < w.length)) = lng v := by
  have h := spans_long v v.length 0 none [] (by omega) (by omega) (fun a h => by cases h)
  have hin := spans_in v v.length 0 none [] (by omega) (fun a h => by cases h) (fun x h => by cases h)
  rw [List.drop_zero] at h
  simp only [opn, Nat.zero_add, show longs [] = false from rfl, Bool.false_or] at h
  unfold Lib.goFieldsP Lib.spansOfP lng
  rw [← h]
  unfold longs
  have hsz : (⟨v.toArray⟩ : ByteArray).size = v.length := rfl
  rw [hsz]
  generalize Lib.closeSpans _ _ = S at *
  rw [List.map_map]
  clear h
  induction S with
  | nil => rfl
  | cons x t ih =>
    have hx := hin x (List.mem_cons_self ..)
    rw [List.map_cons, List.any_cons, List.any_cons, ih fun y hy => hin y (List.mem_cons_of_mem _ hy)]
    congr 1
    simp only [Function.comp]
    have e : ((⟨v.toArray⟩ : ByteArray).extract x.1 x.2).data.toList.length = x.2 - x.1 := by
      have := ByteArray.size_extract (a := (⟨v.toArray⟩ : ByteArray)) (b := x.1) (e := x.2)
      rw [hsz] at this
      have e2 : ((⟨v.toArray⟩ : ByteArray).extract x.1 x.2).data.toList.length = ((⟨v.toArray⟩ : ByteArray).extract x.1 x.2).size := by
        rw [Array.length_toList]; rfl
      rw [e2, this]
      omega
    rw [decide_eq_decide]
    change 900 < ((⟨v.toArray⟩ : ByteArray).extract x.1 x.2).data.toList.length ↔ _
    rw [e]

theorem F48_eq (L : List (List UInt8)) (hL : L.length ≤ 1100002) : F48c51 ((L, (), ()), ()) = some (L.any (fun w => decide (900 < w.length)), ()) := by
  have hF := FUEL_big
  have h2 := walk_listI (f := B68c51_0) (fun (_ : Nat) i => ((L, (), (L.length : Int), (i : Int), ()), ())) L
    (fun a k => if decide (900 < a.length) = true then .inr (.inr ((((k : Nat) : Int), ()), ())) else .inl (k + 1)) (fun _ => .inl ((), ())) (fun b i => b = i) (b := 0)
    (fun b i a hI hi ha => by
      subst hI
      have e : decide ((900:Int) < ((a.length : Nat) : Int)) = decide (900 < a.length) := by rw [decide_eq_decide]; omega
      simp only [B68c51_0, nat_nn, nat_lt, hi, decide_true, Bool.and_self, cond_true, Int.toNat_natCast, ha, F51, Option.bind_some, e]
      cases decide (900 < a.length)
      · left
        refine ⟨b + 1, by simp, rfl, ?_⟩
        simp only [cond_false, w64_nat (show b < 9223372036854775807 by omega)]
      · right
        exact ⟨_, rfl, rfl⟩)
    (fun b _ => by simp only [B68c51_0, Int.lt_irrefl, decide_false, cond_false]) (by omega) rfl
  have h3 : L68c51_0 ((L, (), (L.length : Int), (0:Int), ()), ()) = _ := h2
  simp only [F48c51, F68c51, h3]
  clear h2 h3
  suffices H : ∀ (t : List (List UInt8)) (k : Nat), ∃ r, foldS (fun (a : List UInt8) (k : Nat) => if decide (900 < a.length) = true then (.inr (.inr ((((k : Nat) : Int), ()), ())) : Nat ⊕ ((Unit × Unit) ⊕ ((Int × Unit) × Unit))) else .inl (k + 1)) (fun _ => .inl ((), ())) k t = r ∧
      (t.any (fun w => decide (900 < w.length)) = true → ∃ j : Nat, r = .inr ((((j : Nat) : Int), ()), ())) ∧ (t.any (fun w => decide (900 < w.length)) = false → r = .inl ((), ())) by
    obtain ⟨r, e, q1, q2⟩ := H L 0
    rw [e]
    cases hh : L.any (fun w => decide (900 < w.length))
    · rw [q2 hh]
      rfl
    · obtain ⟨j, rfl⟩ := q1 hh
      simp
  intro t
  induction t with
  | nil => intro k; exact ⟨_, rfl, fun h => by simp at h, fun _ => rfl⟩
  | cons a t ih =>
    intro k
    refine ⟨_, rfl, ?_, ?_⟩
    · intro h
      by_cases ha : 900 < a.length
      · exact ⟨k, by simp [foldS, ha]⟩
      · obtain ⟨r, e, q1, _⟩ := ih (k + 1)
        have := q1 (by simpa [ha] using h)
        rw [← e] at this
        simpa [foldS, ha] using this
    · intro h
      have ha : ¬ 900 < a.length := by
        intro ha
        simp [ha] at h
      obtain ⟨r, e, _, q2⟩ := ih (k + 1)
      have := q2 (by simpa [ha] using h)
      rw [← e] at this
      simpa [foldS, ha] using this

theorem spans_few (s : ByteArray) : ∀ (f pos : Nat) (st : Option Nat) (acc : List (Nat × Nat)), (Lib.spansFromP blank50 s f pos st acc).1.length ≤ acc.length + f
  | 0, _, _, _ => Nat.le_refl _
  | f + 1, pos, st, acc => by
    unfold Lib.spansFromP
    split
    · split
      · cases st with
        | none => exact Nat.le_trans (spans_few s f _ _ _) (by omega)
        | some a => exact Nat.le_trans (spans_few s f _ _ _) (by simp; omega)
      · cases st with
        | none => exact Nat.le_trans (spans_few s f _ _ _) (by omega)
        | some a => exact Nat.le_trans (spans_few s f _ _ _) (by omega)
    · simp

theorem fields_few (v : List UInt8) : (Lib.goFieldsP blank50 ⟨v.toArray⟩).length ≤ v.length + 1 := by
  have h := spans_few ⟨v.toArray⟩ v.length 0 none []
  unfold Lib.goFieldsP Lib.spansOfP Lib.closeSpans
  have hsz : (⟨v.toArray⟩ : ByteArray).size = v.length := rfl
  rw [hsz, List.length_map]
  simp only [List.length_nil, Nat.zero_add] at h
  split
  · rw [List.length_append, List.length_singleton]; omega
  · omega

end Go.Hd
