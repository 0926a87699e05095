/- Taken out of the texts of another seat. -/
import Derived.Test.YtgfecebcaepjfaaGreatDoorVp4
import Derived.Test.YtgfecebcaepjfaaGreatDoorEvWb
import Derived.Lib.FieldsP
import Derived.Lib.SpaceUEq
namespace Go.Vw
open Go Go.Ev
set_option maxRecDepth 100000

def bl (c : UInt8) : Bool := decide (c = 32) || decide (c = 9)

theorem F108_eq (c : UInt8) : F108 ((c, ()), ()) = some (bl c, ()) := by
  simp only [F108, bl]

theorem foldS_all {α τ : Type} (g : α → Bool) (y : τ) (n : τ) : ∀ (s : List α), foldS (fun a (_ : Unit) => if g a = true then (.inl () : Unit ⊕ τ) else .inr n) (fun _ => y) () s = if s.all g then y else n
  | [] => rfl
  | a :: t => by
    simp only [foldS, List.all_cons]
    by_cases h : g a = true
    · simp only [h, ↓reduceIte, Bool.true_and]
      exact foldS_all g y n t
    · simp only [h, ↓reduceIte, Bool.false_and, Bool.false_eq_true]

def nmc (c : UInt8) : Bool := !((decide (c.toNat < 33) || decide (126 < c.toNat)) || decide (c = 58))

def rn (s : List UInt8) : Bool := s.all nmc && (decide (1 ≤ s.length) && decide (s.length ≤ 24))

theorem F54_eq (s : List UInt8) (hs : s.length ≤ 9223372036854775807) : F54 ((s, ()), ()) = some (rn s, ()) := by
  have hF : (9223372036854775807 : Nat) < FUEL := by unfold FUEL; omega
  have h := walk_list (f := B54_0) (fun (_ : Unit) i => ((s, (i : Int), ()), ())) s (fun a _ => if nmc a = true then .inl () else .inr (.inr (((), ()), ()))) (fun _ => .inl ((s, ()), ())) (b := ())
    (fun b i a hi ha => by
      simp only [B54_0, nat_nn, nat_lt, hi, decide_true, Bool.and_self, Bool.true_or, cond_true, Int.toNat_natCast, ha, show UInt8.toNat 33 = 33 from rfl, show UInt8.toNat 126 = 126 from rfl]
      unfold nmc
      cases ((decide (a.toNat < 33) || decide (126 < a.toNat)) || decide (a = 58))
      · simp only [cond_false, Bool.not_false, ↓reduceIte, w64_nat (show i < 9223372036854775807 by omega)]
      · simp only [cond_true, Bool.not_true, Bool.false_eq_true, ↓reduceIte])
    (fun b => by simp only [B54_0, Int.lt_irrefl, decide_false, cond_false]) (by omega)
  rw [foldS_all] at h
  have h' : L54_0 ((s, (0:Int), ()), ()) = _ := h
  simp only [F54, h', rn]
  cases s.all nmc
  · simp only [Bool.false_eq_true, ↓reduceIte, Option.bind_some, Bool.false_and]
  · have e1 : decide ((1:Int) ≤ ((s.length : Nat) : Int)) = decide (1 ≤ s.length) := by rw [decide_eq_decide]; omega
    have e2 : decide (((s.length : Nat) : Int) ≤ 24) = decide (s.length ≤ 24) := by rw [decide_eq_decide]; omega
    simp only [↓reduceIte, Option.bind_some, Bool.true_and, e1, e2]

theorem F110_eq (s : List UInt8) (hs : s.length ≤ 9223372036854775807) : F110 ((s, ()), ()) = some (rn s, ()) := by
  have hF : (9223372036854775807 : Nat) < FUEL := by unfold FUEL; omega
  have h := walk_list (f := B110_0) (fun (_ : Unit) i => ((s, (s.length : Int), (i : Int), ()), ())) s (fun a _ => if nmc a = true then .inl () else .inr (.inr (((), ()), ()))) (fun _ => .inl ((s, ()), ())) (b := ())
    (fun b i a hi ha => by
      simp only [B110_0, nat_nn, nat_lt, hi, decide_true, Bool.and_self, Bool.true_or, cond_true, Int.toNat_natCast, ha, show UInt8.toNat 33 = 33 from rfl, show UInt8.toNat 126 = 126 from rfl]
      unfold nmc
      cases ((decide (a.toNat < 33) || decide (126 < a.toNat)) || decide (a = 58))
      · simp only [cond_false, Bool.not_false, ↓reduceIte, w64_nat (show i < 9223372036854775807 by omega)]
      · simp only [cond_true, Bool.not_true, Bool.false_eq_true, ↓reduceIte])
    (fun b => by simp only [B110_0, Int.lt_irrefl, decide_false, cond_false]) (by omega)
  rw [foldS_all] at h
  have h' : L110_0 ((s, (s.length : Int), (0:Int), ()), ()) = _ := h
  simp only [F110, h', rn]
  cases s.all nmc
  · simp only [Bool.false_eq_true, ↓reduceIte, Option.bind_some, Bool.false_and]
  · have e2 : decide (((s.length : Nat) : Int) ≤ 24) = decide (s.length ≤ 24) := by rw [decide_eq_decide]; omega
    have e1 : (!decide (s = [])) = decide (1 ≤ s.length) := by cases s <;> simp
    simp only [↓reduceIte, Option.bind_some, Bool.true_and, e1, e2]

def badL : List UInt8 := [40, 41, 123, 37, 42, 34, 92, 93]

theorem ub (a k : UInt8) : (a == k) = decide (a.toNat = k.toNat) := by
  rw [Bool.eq_iff_iff, beq_iff_eq, decide_eq_true_eq, UInt8.toNat_inj]

theorem cond_or {α β : Type} (s : α) (q : β) (A X : Bool) : cond A (some ((s, (), A, ()), q)) (some ((s, (), X, ()), q)) = some ((s, (), (A || X), ()), q) := by
  cases A <;> rfl

def gd (c : UInt8) : Bool := decide (33 ≤ c.toNat) && decide (c.toNat ≤ 126) && !(badL.contains c)

def atom (s : List UInt8) : Bool := !s.isEmpty && s.all gd

theorem L41b_eq (s : List UInt8) (i : Nat) (a : UInt8) (hi : i < s.length) (ha : s.getD i 0 = a) :
    L60_1 ((s, (i : Int), (0:Int), ()), ()) = some (if badL.contains a then .inr (((), ()), ()) else .inl ((s, (i : Int), ()), ())) := by
  have hF := FUEL_big
  have h := walk_list (f := B60_1) (fun (_ : Unit) k => ((s, (i : Int), (k : Int), ()), ())) badL (fun x _ => if x == a then .inr (.inr (((), ()), ())) else .inl ()) (fun _ => .inl ((s, (i : Int), ()), ())) (b := ())
    (fun b k x hk hx => by
      have hk8 : k < 8 := hk
      have c1 : decide ((k : Int) < 8) = true := by rw [decide_eq_true_eq]; omega
      have hx0 : List.getD ([40, 41, 123, 37, 42, 34, 92, 93]:List UInt8) k 0 = x := hx 0
      have hx125 : x ≠ 125 := by
        have : x ∈ badL := by
          rw [← hx 0, List.getD_eq_getElem?_getD, List.getElem?_eq_getElem hk]
          exact List.getElem_mem hk
        intro e
        rw [e] at this
        revert this
        decide
      simp only [B60_1, c1, nat_nn, nat_lt, hi, decide_true, Bool.and_self, Bool.true_or, cond_true, Int.toNat_natCast, ha, hx0, w64_nat (show k < 9223372036854775807 by omega)]
      by_cases he : a = x
      · subst he
        have hne : ¬ a = 125 := hx125
        simp [hne]
      · have hne : ¬ (x == a) = true := fun h => he (by simpa using (eq_of_beq h).symm)
        simp [he, hne])
    (fun b => rfl) (by show 8 < FUEL; omega)
  have h' : L60_1 ((s, (i : Int), (0:Int), ()), ()) = _ := h
  rw [h']
  have : ∀ l : List UInt8, foldS (fun x (_ : Unit) => if x == a then (.inr (.inr (((), ()), ())) : Unit ⊕ (((List UInt8 × Int × Unit) × Unit) ⊕ ((Unit × Unit) × Unit))) else .inl ()) (fun _ => .inl ((s, (i : Int), ()), ())) () l = if l.contains a then .inr (((), ()), ()) else .inl ((s, (i : Int), ()), ()) := by
    intro l
    induction l with
    | nil => rfl
    | cons x t ih =>
      simp only [foldS]
      by_cases hxa : x = a
      · subst hxa; simp
      · have h1 : ¬ (x == a) = true := fun h => hxa (eq_of_beq h)
        have h2 : ¬ (a == x) = true := fun h => hxa (eq_of_beq h).symm
        rw [if_neg h1]
        simp only
        rw [ih]
        simp only [List.contains_cons, h2, Bool.false_or]
  rw [this]

theorem F60_eq (s : List UInt8) (hs : s.length ≤ 1100000) : F60 ((s, ()), ()) = some (atom s, ()) := by
  have hF := FUEL_big
  have h := walk_list (f := B60_0) (fun (_ : Unit) i => ((s, (i : Int), ()), ())) s (fun a _ => if gd a = true then .inl () else .inr (.inr (((), ()), ()))) (fun _ => .inl ((s, ()), ())) (b := ())
    (fun b i a hi ha => by
      have e1 := L41b_eq s i a hi (ha 0)
      simp only [B60_0, nat_nn, nat_lt, hi, decide_true, Bool.and_self, Bool.true_or, cond_true, Int.toNat_natCast, ha, show UInt8.toNat 33 = 33 from rfl, show UInt8.toNat 126 = 126 from rfl]
      unfold gd
      by_cases h1 : a.toNat < 33
      · have : ¬ 33 ≤ a.toNat := by omega
        simp only [h1, this, decide_true, decide_false, Bool.true_or, Bool.false_and, cond_true, Bool.false_eq_true, ↓reduceIte, Option.bind_some]
      · by_cases h2 : 126 < a.toNat
        · have : ¬ a.toNat ≤ 126 := by omega
          simp only [h2, this, decide_true, decide_false, Bool.or_true, Bool.and_false, Bool.false_and, cond_true, Bool.false_eq_true, ↓reduceIte, Option.bind_some]
        · have h3 : 33 ≤ a.toNat := by omega
          have h4 : a.toNat ≤ 126 := by omega
          simp only [h1, h2, h3, h4, decide_true, decide_false, Bool.or_self, Bool.true_and, cond_false]
          rw [e1]
          cases badL.contains a
          · simp only [Bool.false_eq_true, ↓reduceIte, Option.bind_some, Bool.not_false, w64_nat (show i < 9223372036854775807 by omega)]
          · simp only [↓reduceIte, Option.bind_some, Bool.not_true, Bool.false_eq_true])
    (fun b => by simp only [B60_0, Int.lt_irrefl, decide_false, cond_false]) (by omega)
  rw [foldS_all] at h
  have h' : L60_0 ((s, (0:Int), ()), ()) = _ := h
  simp only [F60, h', atom]
  cases s with
  | nil => rfl
  | cons c t =>
    have c1 : decide ((0:Int) < (((c :: t).length : Nat) : Int)) = true := by rw [decide_eq_true_eq, List.length_cons]; omega
    cases (c :: t).all gd
    · simp
    · simp only [↓reduceIte, Option.bind_some, c1, List.isEmpty_cons, Bool.not_false, Bool.and_self]

theorem dec_at {s : List UInt8} {i : Nat} (h : i < s.length) : Utf8.decode ⟨s.toArray⟩ i = Lib.decodeL (s.drop i) := by
  rw [← Lib.decodeL_drop]

theorem decodeN_big (n b0 b1 b2 b3 : Nat) (h : 128 ≤ b0) : 128 ≤ (Lib.decodeN n b0 b1 b2 b3).1 := by
  unfold Lib.decodeN
  repeat' split
  all_goals simp only
  all_goals omega

theorem dec_big {b : UInt8} {t : List UInt8} (h : 128 ≤ b.toNat) : 128 ≤ (Lib.decodeL (b :: t)).1 := by
  rw [Lib.decodeL_N]
  exact decodeN_big _ _ _ _ _ h

theorem gd_rune (b : UInt8) (v : Int) (h1 : b.toNat < 128 → v = (b.toNat : Int)) (h2 : 128 ≤ b.toNat → 128 ≤ v) :
    ((decide (v ≤ 32) || decide (126 < v)) || (decide (v = 40) || (decide (v = 41) || (decide (v = 123) || (decide (v = 37) || (decide (v = 42) || (decide (v = 34) || (decide (v = 92) || decide (v = 93))))))))) = !gd b := by
  unfold gd badL
  simp only [List.contains_cons, List.contains_nil, Bool.or_false, ub, show UInt8.toNat 40 = 40 from rfl, show UInt8.toNat 41 = 41 from rfl, show UInt8.toNat 123 = 123 from rfl, show UInt8.toNat 37 = 37 from rfl, show UInt8.toNat 42 = 42 from rfl, show UInt8.toNat 34 = 34 from rfl, show UInt8.toNat 92 = 92 from rfl, show UInt8.toNat 93 = 93 from rfl]
  rw [Bool.eq_iff_iff]
  simp only [Bool.or_eq_true, Bool.and_eq_true, Bool.not_eq_true', Bool.and_eq_false_iff, Bool.not_eq_false', decide_eq_true_eq, decide_eq_false_iff_not]
  rcases Nat.lt_or_ge b.toNat 128 with h | h
  · have := h1 h; omega
  · have := h2 h; omega

theorem L94_iter (s : List UInt8) : ∀ (k i : Nat), i ≤ s.length → s.length - i < k →
    iter B94_0 k ((s, (), ()), ((s, i), ())) = some (if (s.drop i).all gd then .inl ((s, ()), ()) else .inr (((), ()), ()))
  | 0, _, _, h => absurd h (Nat.not_lt_zero _)
  | k + 1, i, hi, hk => by
    by_cases hlt : i < s.length
    · have hd := List.drop_eq_getElem_cons hlt
      generalize hb : s[i] = b at hd
      have hg := gd_rune b ((Lib.decodeL (b :: s.drop (i + 1))).1 : Int) (fun h => by rw [Lib.decodeL_ascii b _ h]) (fun h => by
        have := dec_big (t := s.drop (i + 1)) h
        omega)
      simp only [iter, B94_0, hlt, decide_true, cond_true, dec_at hlt]
      rw [hd]
      simp only [cond_or, hg, Option.bind_some, List.all_cons]
      by_cases h : gd b = true
      case neg =>
        rw [Bool.not_eq_true] at h
        simp only [h, Bool.not_false, cond_true, Bool.false_and, Bool.false_eq_true, ↓reduceIte]
      · have h128 : b.toNat < 128 := by
          unfold gd at h
          simp only [Bool.and_eq_true, decide_eq_true_eq] at h
          omega
        have ih := L94_iter s k (i + 1) (by omega) (by omega)
        simp only [h, Bool.not_true, cond_false, Bool.true_and]
        rw [Lib.decodeL_ascii b _ h128]
        exact ih
    · obtain rfl : i = s.length := by omega
      simp only [iter, B94_0, Nat.lt_irrefl, decide_false, cond_false, List.drop_length, List.all_nil, ↓reduceIte]

theorem F94_eq (s : List UInt8) (hs : s.length ≤ 1100000) : F94 ((s, ()), ()) = some (atom s, ()) := by
  have h : L94_0 ((s, (), ()), ((s, 0), ())) = _ := L94_iter s FUEL 0 (Nat.zero_le _) (by unfold FUEL; omega)
  rw [List.drop_zero] at h
  simp only [F94, h, atom]
  cases s with
  | nil => rfl
  | cons c t =>
    cases (c :: t).all gd
    · simp
    · simp

/-- the letters up to the first blank, and the words behind them, each with its blank -/
def w1 : List UInt8 → List UInt8 × List (List UInt8)
  | [] => ([], [])
  | c :: t => if bl c = true then ([], (c :: (w1 t).1) :: (w1 t).2) else (c :: (w1 t).1, (w1 t).2)

theorem w1_pre : ∀ (a b : List UInt8), (∀ x ∈ a, bl x = false) → w1 (a ++ b) = (a ++ (w1 b).1, (w1 b).2)
  | [], _, _ => rfl
  | x :: a, b, h => by
    have ih := w1_pre a b fun y hy => h y (List.mem_cons_of_mem _ hy)
    have hx := h x (List.mem_cons_self ..)
    simp only [List.cons_append, w1, hx, Bool.false_eq_true, ↓reduceIte, ih]

theorem w1_join : ∀ l : List UInt8, l = (w1 l).1 ++ (w1 l).2.flatten
  | [] => rfl
  | c :: t => by
    have ih := w1_join t
    unfold w1
    split
    · simp only [List.nil_append, List.flatten_cons, List.cons_append]
      rw [← ih]
    · simp only [List.cons_append]
      rw [← ih]

theorem w1_fst : ∀ l : List UInt8, ∀ x ∈ (w1 l).1, bl x = false
  | [], x, h => by cases h
  | c :: t, x, h => by
    unfold w1 at h
    split at h
    · cases h
    · next hc =>
      rcases List.mem_cons.mp h with rfl | h
      · simpa using hc
      · exact w1_fst t x h

def wordOK (w : List UInt8) : Prop := ∃ b t, w = b :: t ∧ bl b = true ∧ ∀ x ∈ t, bl x = false

theorem w1_snd : ∀ l : List UInt8, ∀ w ∈ (w1 l).2, wordOK w
  | [], x, h => by cases h
  | c :: t, x, h => by
    unfold w1 at h
    split at h
    · next hc =>
      rcases List.mem_cons.mp h with rfl | h
      · exact ⟨c, _, rfl, hc, w1_fst t⟩
      · exact w1_snd t x h
    · exact w1_snd t x h

/-- a word that is too long -/
def lng (v : List UInt8) : Bool := decide (900 < (w1 v).1.length) || (w1 v).2.any fun w => decide (901 < w.length)

def longs (acc : List (Nat × Nat)) : Bool := acc.any fun x => decide (900 < x.2 - x.1)

theorem cont_not (c : UInt8) (h : c.toNat / 64 = 2) : bl c = false := by
  unfold bl
  rw [Bool.or_eq_false_iff, decide_eq_false_iff_not, decide_eq_false_iff_not]
  constructor
  · rintro rfl
    revert h
    decide
  · rintro rfl
    revert h
    decide

theorem rune_bl (l : List UInt8) (b : UInt8) (t : List UInt8) (hl : l = b :: t) : blank158 (Lib.decodeL l).1 = bl b ∧ (bl b = true → (Lib.decodeL l).2 = 1) ∧ 1 ≤ (Lib.decodeL l).2 ∧ (Lib.decodeL l).2 ≤ l.length ∧ (bl b = false → ∀ x ∈ l.take (Lib.decodeL l).2, bl x = false) := by
  subst hl
  have hw := Lib.decodeL_width (b :: t)
  by_cases hb : b.toNat < 128
  · rw [Lib.decodeL_ascii b t hb]
    refine ⟨?_, fun _ => rfl, Nat.le_refl _, by simp, fun h x hx => ?_⟩
    · unfold blank158 bl
      have e1 : (b.toNat == 32) = decide (b = 32) := by
        rw [Bool.eq_iff_iff, beq_iff_eq, decide_eq_true_eq, ← UInt8.toNat_inj]; rfl
      have e2 : (b.toNat == 9) = decide (b = 9) := by
        rw [Bool.eq_iff_iff, beq_iff_eq, decide_eq_true_eq, ← UInt8.toNat_inj]; rfl
      rw [← e1, ← e2]
    · simp only [List.take_succ_cons, List.take_zero, List.mem_singleton] at hx
      rw [hx]; exact h
  · have hbig := dec_big (t := t) (Nat.le_of_not_lt hb)
    have hbb : bl b = false := by
      unfold bl
      rw [Bool.or_eq_false_iff, decide_eq_false_iff_not, decide_eq_false_iff_not]
      constructor
      · rintro rfl
        exact hb (by decide)
      · rintro rfl
        exact hb (by decide)
    have hc := Lib.decodeN_conts (b :: t).length ((b :: t).getD 0 0).toNat ((b :: t).getD 1 0).toNat ((b :: t).getD 2 0).toNat ((b :: t).getD 3 0).toNat
    rw [← Lib.decodeL_N] at hc
    obtain ⟨c2, c3, c4, c5⟩ := hc
    have hlen : (Lib.decodeL (b :: t)).2 ≤ (b :: t).length := Lib.decodeL_le _ (by simp)
    refine ⟨?_, (fun h => absurd h (by rw [hbb]; decide)), hw, hlen, fun _ x hx => ?_⟩
    · rw [hbb]
      unfold blank158
      rw [Bool.or_eq_false_iff, beq_eq_false_iff_ne, beq_eq_false_iff_ne]
      omega
    · obtain ⟨j, hj, rfl⟩ := List.mem_iff_getElem.mp hx
      have hj' : j < (Lib.decodeL (b :: t)).2 := by rw [List.length_take] at hj; omega
      rw [List.getElem_take]
      have hg : ∀ (h : j < (b :: t).length), (b :: t)[j] = (b :: t).getD j 0 := fun h => by rw [List.getD_eq_getElem?_getD, List.getElem?_eq_getElem h]; rfl
      rw [hg (by omega)]
      match j, hj' with
      | 0, _ => exact hbb
      | 1, h => exact cont_not _ (c2 (by omega)).1
      | 2, h => exact cont_not _ (c3 (by omega)).1
      | 3, h => exact cont_not _ (c4 (by omega)).1
      | j + 4, h => omega

theorem longs_snoc (acc : List (Nat × Nat)) (a b : Nat) : longs (acc ++ [(a, b)]) = (longs acc || decide (900 < b - a)) := by
  simp [longs]

/-- letters behind which a word is open -/
def opn (st : Option Nat) (pos : Nat) : Nat := match st with
  | some a => pos - a
  | none => 0

theorem spans_long (v : List UInt8) : ∀ (f pos : Nat) (st : Option Nat) (acc : List (Nat × Nat)), v.length ≤ pos + f → pos ≤ v.length → (∀ a, st = some a → a ≤ pos) →
    longs (Lib.closeSpans ⟨v.toArray⟩ (Lib.spansFromP blank158 ⟨v.toArray⟩ f pos st acc)) = (longs acc || (decide (900 < opn st pos + (w1 (v.drop pos)).1.length) || (w1 (v.drop pos)).2.any fun w => decide (901 < w.length)))
  | 0, pos, st, acc, h1, h2, h3 => by
    obtain rfl : pos = v.length := by omega
    have hsz : (⟨v.toArray⟩ : ByteArray).size = v.length := rfl
    rw [List.drop_length]
    simp only [w1, List.length_nil, Nat.add_zero, List.any_nil, Bool.or_false, Lib.spansFromP, Lib.closeSpans, hsz, opn]
    cases st with
    | none => simp
    | some a => simp only [longs_snoc]; rfl
  | f + 1, pos, st, acc, h1, h2, h3 => by
    have hsz : (⟨v.toArray⟩ : ByteArray).size = v.length := rfl
    by_cases hlt : pos < v.length
    · have hd := List.drop_eq_getElem_cons hlt
      generalize v[pos] = b at hd
      obtain ⟨r1, r2, r3, r4, r5⟩ := rune_bl (v.drop pos) b _ hd
      rw [← dec_at hlt] at r1 r2 r3 r4 r5
      unfold Lib.spansFromP
      rw [hsz, if_pos hlt, r1]
      generalize hdec : Utf8.decode ⟨v.toArray⟩ pos = d at *
      obtain ⟨dr, dw⟩ := d
      simp only at *
      rw [List.length_drop] at r4
      by_cases hb : bl b = true
      · have hw := r2 hb
        subst hw
        rw [hd]
        have e : w1 (b :: v.drop (pos + 1)) = ([], (b :: (w1 (v.drop (pos + 1))).1) :: (w1 (v.drop (pos + 1))).2) := by simp only [w1, hb, ↓reduceIte]
        rw [e]
        simp only [hb, ↓reduceIte, List.length_nil, Nat.add_zero, List.any_cons, List.length_cons]
        have q : decide (901 < (w1 (v.drop (pos + 1))).1.length + 1) = decide (900 < 0 + (w1 (v.drop (pos + 1))).1.length) := by rw [decide_eq_decide]; omega
        rw [q]
        cases st with
        | none =>
          simp only
          rw [spans_long v f (pos + 1) none acc (by omega) (by omega) (fun a h => by cases h)]
          simp [opn]
        | some a =>
          simp only
          rw [spans_long v f (pos + 1) none _ (by omega) (by omega) (fun a h => by cases h), longs_snoc]
          simp only [opn, Bool.or_assoc]
          rfl
      · rw [Bool.not_eq_true] at hb
        have hnb := r5 hb
        have hsplit : v.drop pos = (v.drop pos).take dw ++ v.drop (pos + dw) := by
          rw [← List.drop_drop, List.take_append_drop]
        have e : w1 (v.drop pos) = ((v.drop pos).take dw ++ (w1 (v.drop (pos + dw))).1, (w1 (v.drop (pos + dw))).2) := by
          conv => lhs; rw [hsplit]
          exact w1_pre _ _ hnb
        have hl : ((v.drop pos).take dw).length = dw := by rw [List.length_take, List.length_drop]; omega
        rw [e]
        simp only [hb, Bool.false_eq_true, ↓reduceIte, List.length_append, hl]
        cases st with
        | none =>
          simp only
          rw [spans_long v f (pos + dw) (some pos) acc (by omega) (by omega) (fun a h => by cases h; omega)]
          have : opn (some pos) (pos + dw) + (w1 (v.drop (pos + dw))).1.length = opn none pos + (dw + (w1 (v.drop (pos + dw))).1.length) := by unfold opn; simp only; omega
          rw [this]
        | some a =>
          have ha := h3 a rfl
          simp only
          rw [spans_long v f (pos + dw) (some a) acc (by omega) (by omega) (fun x h => by cases h; omega)]
          have : opn (some a) (pos + dw) + (w1 (v.drop (pos + dw))).1.length = opn (some a) pos + (dw + (w1 (v.drop (pos + dw))).1.length) := by unfold opn; simp only; omega
          rw [this]
    · obtain rfl : pos = v.length := by omega
      rw [Lib.spansFromP_end _ _ _ _ _ _ (by rw [hsz]; omega), List.drop_length]
      simp only [w1, List.length_nil, Nat.add_zero, List.any_nil, Bool.or_false, Lib.closeSpans, hsz, opn]
      cases st with
      | none => simp
      | some a => simp only [longs_snoc]; rfl

theorem spans_in (v : List UInt8) : ∀ (f pos : Nat) (st : Option Nat) (acc : List (Nat × Nat)), pos ≤ v.length → (∀ a, st = some a → a ≤ pos) → (∀ x ∈ acc, x.2 ≤ v.length) →
    ∀ x ∈ Lib.closeSpans ⟨v.toArray⟩ (Lib.spansFromP blank158 ⟨v.toArray⟩ f pos st acc), x.2 ≤ v.length
  | 0, pos, st, acc, h1, h2, h3 => by
    intro x hx
    cases st with
    | none => exact h3 x hx
    | some a =>
      simp only [Lib.spansFromP, Lib.closeSpans, List.mem_append, List.mem_singleton] at hx
      rcases hx with h | rfl
      · exact h3 x h
      · exact Nat.le_refl _
  | f + 1, pos, st, acc, h1, h2, h3 => by
    have hsz : (⟨v.toArray⟩ : ByteArray).size = v.length := rfl
    unfold Lib.spansFromP
    rw [hsz]
    by_cases hlt : pos < v.length
    · rw [if_pos hlt]
      have hd := List.drop_eq_getElem_cons hlt
      obtain ⟨_, _, _, r4, _⟩ := rune_bl (v.drop pos) _ _ hd
      rw [← dec_at hlt, List.length_drop] at r4
      split
      · cases st with
        | none => exact spans_in v f _ none acc (by omega) (fun a h => by cases h) h3
        | some a =>
          exact spans_in v f _ none _ (by omega) (fun a h => by cases h) (fun x hx => by
            rcases List.mem_append.mp hx with h | h
            · exact h3 x h
            · rw [List.mem_singleton] at h
              subst h
              exact h1)
      · cases st with
        | none => exact spans_in v f _ (some pos) acc (by omega) (fun a h => by cases h; omega) h3
        | some a => exact spans_in v f _ (some a) acc (by omega) (fun x h => by have := h2 a rfl; cases h; omega) h3
    · rw [if_neg hlt]
      intro x hx
      cases st with
      | none => exact h3 x hx
      | some a =>
        simp only [Lib.closeSpans, List.mem_append, List.mem_singleton] at hx
        rcases hx with h | rfl
        · exact h3 x h
        · exact Nat.le_refl _

/-- the fields of a text: one is too long just if a word is -/
theorem fields_long (v : List UInt8) : ((Lib.goFieldsP blank158 ⟨v.toArray⟩).map fun x => x.data.toList).any (fun w => decide (900 < w.length)) = lng v := by
  have h := spans_long v v.length 0 none [] (by omega) (by omega) (fun a h => by cases h)
  have hin := spans_in v v.length 0 none [] (by omega) (fun a h => by cases h) (fun x h => by cases h)
  rw [List.drop_zero] at h
  simp only [opn, Nat.zero_add, show longs [] = false from rfl, Bool.false_or] at h
  unfold Lib.goFieldsP Lib.spansOfP lng
  rw [← h]
  unfold longs
  have hsz : (⟨v.toArray⟩ : ByteArray).size = v.length := rfl
  rw [hsz]
  generalize Lib.closeSpans _ _ = S at *
  rw [List.map_map]
  clear h
  induction S with
  | nil => rfl
  | cons x t ih =>
    have hx := hin x (List.mem_cons_self ..)
    rw [List.map_cons, List.any_cons, List.any_cons, ih fun y hy => hin y (List.mem_cons_of_mem _ hy)]
    congr 1
    simp only [Function.comp]
    have e : ((⟨v.toArray⟩ : ByteArray).extract x.1 x.2).data.toList.length = x.2 - x.1 := by
      have := ByteArray.size_extract (a := (⟨v.toArray⟩ : ByteArray)) (b := x.1) (e := x.2)
      rw [hsz] at this
      have e2 : ((⟨v.toArray⟩ : ByteArray).extract x.1 x.2).data.toList.length = ((⟨v.toArray⟩ : ByteArray).extract x.1 x.2).size := by
        rw [Array.length_toList]; rfl
      rw [e2, this]
      omega
    rw [decide_eq_decide]
    change 900 < ((⟨v.toArray⟩ : ByteArray).extract x.1 x.2).data.toList.length ↔ _
    rw [e]

theorem F68_eq (L : List (List UInt8)) (hL : L.length ≤ 1100002) : F68c159 ((L, (), ()), ()) = some (L.any (fun w => decide (900 < w.length)), ()) := by
  have hF := FUEL_big
  have h2 := walk_listI (f := B92c159_0) (fun (_ : Nat) i => ((L, (), (L.length : Int), (i : Int), ()), ())) L
    (fun a k => if decide (900 < a.length) = true then .inr (.inr ((((k : Nat) : Int), ()), ())) else .inl (k + 1)) (fun _ => .inl ((), ())) (fun b i => b = i) (b := 0)
    (fun b i a hI hi ha => by
      subst hI
      have e : decide ((900:Int) < ((a.length : Nat) : Int)) = decide (900 < a.length) := by rw [decide_eq_decide]; omega
      simp only [B92c159_0, nat_nn, nat_lt, hi, decide_true, Bool.and_self, cond_true, Int.toNat_natCast, ha, F159, Option.bind_some, e]
      cases decide (900 < a.length)
      · left
        refine ⟨b + 1, by simp, rfl, ?_⟩
        simp only [cond_false, w64_nat (show b < 9223372036854775807 by omega)]
      · right
        exact ⟨_, rfl, rfl⟩)
    (fun b _ => by simp only [B92c159_0, Int.lt_irrefl, decide_false, cond_false]) (by omega) rfl
  have h3 : L92c159_0 ((L, (), (L.length : Int), (0:Int), ()), ()) = _ := h2
  simp only [F68c159, F92c159, h3]
  clear h2 h3
  suffices H : ∀ (t : List (List UInt8)) (k : Nat), ∃ r, foldS (fun (a : List UInt8) (k : Nat) => if decide (900 < a.length) = true then (.inr (.inr ((((k : Nat) : Int), ()), ())) : Nat ⊕ ((Unit × Unit) ⊕ ((Int × Unit) × Unit))) else .inl (k + 1)) (fun _ => .inl ((), ())) k t = r ∧
      (t.any (fun w => decide (900 < w.length)) = true → ∃ j : Nat, r = .inr ((((j : Nat) : Int), ()), ())) ∧ (t.any (fun w => decide (900 < w.length)) = false → r = .inl ((), ())) by
    obtain ⟨r, e, q1, q2⟩ := H L 0
    rw [e]
    cases hh : L.any (fun w => decide (900 < w.length))
    · rw [q2 hh]
      rfl
    · obtain ⟨j, rfl⟩ := q1 hh
      simp
  intro t
  induction t with
  | nil => intro k; exact ⟨_, rfl, fun h => by simp at h, fun _ => rfl⟩
  | cons a t ih =>
    intro k
    refine ⟨_, rfl, ?_, ?_⟩
    · intro h
      by_cases ha : 900 < a.length
      · exact ⟨k, by simp [foldS, ha]⟩
      · obtain ⟨r, e, q1, _⟩ := ih (k + 1)
        have := q1 (by simpa [ha] using h)
        rw [← e] at this
        simpa [foldS, ha] using this
    · intro h
      have ha : ¬ 900 < a.length := by
        intro ha
        simp [ha] at h
      obtain ⟨r, e, _, q2⟩ := ih (k + 1)
      have := q2 (by simpa [ha] using h)
      rw [← e] at this
      simpa [foldS, ha] using this

theorem spans_few (s : ByteArray) : ∀ (f pos : Nat) (st : Option Nat) (acc : List (Nat × Nat)), (Lib.spansFromP blank158 s f pos st acc).1.length ≤ acc.length + f
  | 0, _, _, _ => Nat.le_refl _
  | f + 1, pos, st, acc => by
    unfold Lib.spansFromP
    split
    · split
      · cases st with
        | none => exact Nat.le_trans (spans_few s f _ _ _) (by omega)
        | some a => exact Nat.le_trans (spans_few s f _ _ _) (by simp; omega)
      · cases st with
        | none => exact Nat.le_trans (spans_few s f _ _ _) (by omega)
        | some a => exact Nat.le_trans (spans_few s f _ _ _) (by omega)
    · simp

theorem fields_few (v : List UInt8) : (Lib.goFieldsP blank158 ⟨v.toArray⟩).length ≤ v.length + 1 := by
  have h := spans_few ⟨v.toArray⟩ v.length 0 none []
  unfold Lib.goFieldsP Lib.spansOfP Lib.closeSpans
  have hsz : (⟨v.toArray⟩ : ByteArray).size = v.length := rfl
  rw [hsz, List.length_map]
  simp only [List.length_nil, Nat.zero_add] at h
  split
  · rw [List.length_append, List.length_singleton]; omega
  · omega

def ctl (c : UInt8) : Bool := (decide (c.toNat < 32) && !decide (c = 9)) || decide (c = 127)

def badC (v : List UInt8) (i : Nat) : Bool := ctl (v.getD i 0) || (bl (v.getD i 0) && ((decide (i = 0) || decide (i + 1 = v.length)) || bl (v.getD (i - 1) 0)))

def badR (v : List UInt8) (i : Nat) : Bool := ctl (v.getD i 0) || (bl (v.getD i 0) && ((decide (i = 0) || decide (i + 1 = v.length)) || bl (v.getD (i + 1) 0)))

def okv (v : List UInt8) : Bool := (List.range v.length).all fun i => !badR v i

theorem bad_iff (v : List UInt8) : ((List.range v.length).all fun i => !badC v i) = okv v := by
  unfold okv
  rw [Bool.eq_iff_iff, List.all_eq_true, List.all_eq_true]
  constructor
  · intro h i hi
    rw [List.mem_range] at hi
    have h0 := h i (List.mem_range.mpr hi)
    simp only [badC, Bool.not_or, Bool.and_eq_true, Bool.not_eq_true'] at h0
    simp only [badR, Bool.not_or, Bool.and_eq_true, Bool.not_eq_true']
    refine ⟨h0.1, ?_⟩
    rw [Bool.and_eq_false_iff]
    by_cases hb : bl (v.getD i 0) = true
    · right
      rw [hb, Bool.true_and, Bool.or_eq_false_iff] at h0
      rw [Bool.or_eq_false_iff]
      refine ⟨h0.2.1, ?_⟩
      rw [Bool.or_eq_false_iff, decide_eq_false_iff_not, decide_eq_false_iff_not] at h0
      have h1 := h (i + 1) (List.mem_range.mpr (by omega))
      simp only [badC, Bool.not_or, Bool.and_eq_true, Bool.not_eq_true', Nat.add_sub_cancel, hb, Bool.or_true, Bool.and_true] at h1
      exact h1.2
    · left; simpa using hb
  · intro h i hi
    rw [List.mem_range] at hi
    have h0 := h i (List.mem_range.mpr hi)
    simp only [badR, Bool.not_or, Bool.and_eq_true, Bool.not_eq_true'] at h0
    simp only [badC, Bool.not_or, Bool.and_eq_true, Bool.not_eq_true']
    refine ⟨h0.1, ?_⟩
    rw [Bool.and_eq_false_iff]
    by_cases hb : bl (v.getD i 0) = true
    · right
      rw [hb, Bool.true_and, Bool.or_eq_false_iff] at h0
      rw [Bool.or_eq_false_iff]
      refine ⟨h0.2.1, ?_⟩
      rw [Bool.or_eq_false_iff, decide_eq_false_iff_not, decide_eq_false_iff_not] at h0
      have h1 := h (i - 1) (List.mem_range.mpr (by omega))
      rw [show i = i - 1 + 1 by omega] at hb
      simp only [badR, Bool.not_or, Bool.and_eq_true, Bool.not_eq_true', hb, Bool.or_true, Bool.and_true] at h1
      exact h1.2
    · left; simpa using hb

theorem range_get (n i : Nat) (a : Nat) (hi : i < (List.range n).length) (ha : ∀ d, (List.range n).getD i d = a) : a = i ∧ i < n := by
  rw [List.length_range] at hi
  have := ha 0
  rw [List.getD_eq_getElem?_getD, List.getElem?_eq_getElem (by simpa using hi), List.getElem_range] at this
  exact ⟨this.symm, hi⟩

theorem F129_eq (v : List UInt8) (hv : v.length ≤ 9223372036854775807) : F129 ((v, ()), ()) = some (if okv v then (if 1024 < v.length ∨ lng v = true then 6 else 0) else 4, ()) := by
  have hF : (9223372036854775807 : Nat) < FUEL := by unfold FUEL; omega
  have h := walk_list (f := B129_0) (fun (_ : Unit) i => ((v, (v.length : Int), (i : Int), ()), ())) (List.range v.length) (fun a _ => if (!badC v a) = true then .inl () else .inr (.inr (((), ()), ()))) (fun _ => .inl ((v, ()), ())) (b := ())
    (fun b i a hi ha => by
      obtain ⟨rfl, hi⟩ := range_get _ _ _ hi ha
      have hw : w64 ((v.length : Int) - 1) = ((v.length - 1 : Nat) : Int) := by rw [w64_id (by omega) (by omega)]; omega
      have e1 : decide ((a : Int) = 0) = decide (a = 0) := by rw [decide_eq_decide]; omega
      have e2 : decide ((a : Int) = ((v.length - 1 : Nat) : Int)) = decide (a + 1 = v.length) := by rw [decide_eq_decide]; omega
      simp only [B129_0, nat_nn, nat_lt, hi, decide_true, Bool.and_self, cond_true, Int.toNat_natCast, hw, e1, e2, F108_eq, Option.bind_some, w64_nat (show a < 9223372036854775807 by omega), Bool.and_true]
      unfold badC ctl
      by_cases he : a = 0 ∨ a + 1 = v.length
      · have he' : (decide (a = 0) || decide (a + 1 = v.length)) = true := by simpa using he
        simp only [he', Bool.or_true, Bool.not_true, cond_true, cond_false, Bool.true_or, Bool.and_true, show UInt8.toNat 32 = 32 from rfl]
        cases (decide ((v.getD a 0).toNat < 32) && !decide (v.getD a 0 = 9)) || decide (v.getD a 0 = 127)
        · cases bl (v.getD a 0) <;> rfl
        · rfl
      · have he' : (decide (a = 0) || decide (a + 1 = v.length)) = false := by simpa using he
        have hw2 : w64 ((a : Int) - 1) = ((a - 1 : Nat) : Int) := by rw [w64_id (by omega) (by omega)]; omega
        have hlt : a - 1 < v.length := by omega
        simp only [hw2, nat_nn, nat_lt, hlt, decide_true, Bool.and_self, Bool.true_or, he', Bool.not_false, cond_true, Int.toNat_natCast, Bool.false_or, show UInt8.toNat 32 = 32 from rfl]
        cases (decide ((v.getD a 0).toNat < 32) && !decide (v.getD a 0 = 9)) || decide (v.getD a 0 = 127)
        · cases bl (v.getD a 0) <;> cases bl (v.getD (a - 1) 0) <;> rfl
        · rfl)
    (fun b => by simp only [List.length_range, B129_0, Int.lt_irrefl, decide_false, cond_false]) (by rw [List.length_range]; omega)
  rw [foldS_all, bad_iff] at h
  have h' : L129_0 ((v, (v.length : Int), (0:Int), ()), ()) = _ := h
  simp only [F129, h']
  cases okv v
  · rfl
  · have e : decide ((1024:Int) < ((v.length : Nat) : Int)) = decide (1024 < v.length) := by rw [decide_eq_decide]; omega
    simp only [↓reduceIte, Option.bind_some, e]
    by_cases h1 : 1024 < v.length
    · simp only [h1, decide_true, Bool.not_true, cond_false, true_or, ↓reduceIte]
    · have hsz : decide (v.length ≤ 4294967296) = true := by rw [decide_eq_true_eq]; omega
      have hlen : (List.map (fun x => x.data.toList) (Lib.goFieldsP blank158 ⟨v.toArray⟩)).length ≤ 1100002 := by
        rw [List.length_map]
        have := fields_few v
        omega
      simp only [h1, decide_false, Bool.not_false, cond_true, hsz, F68_eq _ hlen, Option.bind_some, fields_long, false_or]
      cases lng v <;> rfl

/-- lines of words -/
def fw : List UInt8 → List UInt8 → List (List UInt8) → List UInt8 × List UInt8
  | out, now, [] => (out, now)
  | out, now, w :: ws => if 78 < now.length + w.length then fw (out ++ now ++ [13, 10]) w ws else fw out (now ++ w) ws

def tot (ws : List (List UInt8)) : Nat := (ws.map fun w => w.length + 2).sum

theorem fw_len : ∀ (ws : List (List UInt8)) (out now : List UInt8), (fw out now ws).1.length + (fw out now ws).2.length ≤ out.length + now.length + tot ws
  | [], out, now => by simp [fw, tot]
  | w :: ws, out, now => by
    unfold fw tot
    rw [List.map_cons, List.sum_cons]
    split
    · have := fw_len ws (out ++ now ++ [13, 10]) w
      unfold tot at this
      simp only [List.length_append, List.length_cons, List.length_nil] at this
      omega
    · have := fw_len ws out (now ++ w)
      unfold tot at this
      simp only [List.length_append] at this
      omega

def lines (n v : List UInt8) : List UInt8 :=
  (fw [] (n ++ [58] ++ ([32] ++ (w1 v).1)) (w1 v).2).1 ++ (fw [] (n ++ [58] ++ ([32] ++ (w1 v).1)) (w1 v).2).2 ++ [13, 10]

def fold (n v : List UInt8) : (List UInt8 × Int × Unit) :=
  if rn n = true then
    (if okv v = true then (if 1024 < v.length ∨ lng v = true then ([], 6, ()) else (lines n v, 0, ())) else ([], 4, ()))
  else ([], 4, ())

theorem tot_le : ∀ ws : List (List UInt8), (∀ w ∈ ws, wordOK w) → tot ws ≤ 3 * ws.flatten.length
  | [], _ => Nat.le_refl _
  | w :: ws, h => by
    have ih := tot_le ws fun x hx => h x (List.mem_cons_of_mem _ hx)
    obtain ⟨b, t, rfl, _, _⟩ := h w (List.mem_cons_self ..)
    simp only [tot, List.map_cons, List.sum_cons, List.flatten_cons, List.length_append, List.length_cons] at *
    omega

theorem ws_len : ∀ ws : List (List UInt8), (∀ w ∈ ws, wordOK w) → ws.length ≤ ws.flatten.length
  | [], _ => Nat.le_refl _
  | w :: ws, h => by
    have ih := ws_len ws fun x hx => h x (List.mem_cons_of_mem _ hx)
    obtain ⟨b, t, rfl, _, _⟩ := h w (List.mem_cons_self ..)
    simp only [List.flatten_cons, List.length_append, List.length_cons] at *
    omega

theorem w1_lens (v : List UInt8) : (w1 v).1.length + (w1 v).2.flatten.length = v.length := by
  conv => rhs; rw [w1_join v]
  rw [List.length_append]

theorem L130_iter (c : UInt8) (r : List UInt8) (hr : ∀ d, r.head? = some d → bl d = true) : ∀ (t p : List UInt8) (k : Nat), (∀ x ∈ t, bl x = false) → p.length + t.length + r.length ≤ 1000000 → t.length < k →
    iter B130_0 k (((), ((p.length + 1 : Nat) : Int), ()), ((c :: (p ++ t ++ r), ()), ())) = some (((), ((p.length + t.length + 1 : Nat) : Int), ()), ((c :: (p ++ t ++ r), ()), ()))
  | _, _, 0, _, _, h => absurd h (Nat.not_lt_zero _)
  | [], p, k + 1, _, hlen, _ => by
    cases r with
    | nil =>
      have hl : (c :: (p ++ [] ++ [])).length = p.length + 1 := by simp
      have d1 : decide (p.length + 1 < (c :: (p ++ [] ++ [])).length) = false := by rw [hl]; simp
      simp only [iter, B130_0, nat_nn, nat_lt, d1, Bool.and_false, Bool.not_false, Bool.or_true, cond_true, cond_false, List.length_nil, Nat.add_zero]
    | cons d r =>
      have hl : (c :: (p ++ [] ++ d :: r)).length = p.length + 1 + (r.length + 1) := by simp; omega
      have d1 : decide (p.length + 1 < (c :: (p ++ [] ++ d :: r)).length) = true := by rw [hl, decide_eq_true_eq]; omega
      have hg : (c :: (p ++ [] ++ d :: r)).getD (p.length + 1) 0 = d := by
        rw [List.getD_cons_succ, List.append_nil, List.getD_eq_getElem?_getD, List.getElem?_append_right (Nat.le_refl _)]; simp
      have hb := hr d rfl
      simp only [iter, B130_0, nat_nn, nat_lt, d1, Bool.and_self, Bool.true_or, cond_true, Int.toNat_natCast, hg, F108_eq, hb, Option.bind_some, Bool.not_true, cond_false, List.length_nil, Nat.add_zero]
  | x :: t, p, k + 1, ht, hlen, hk => by
    have hl : (c :: (p ++ x :: t ++ r)).length = p.length + 1 + (t.length + 1 + r.length) := by simp; omega
    have d1 : decide (p.length + 1 < (c :: (p ++ x :: t ++ r)).length) = true := by rw [hl, decide_eq_true_eq]; omega
    have hg : (c :: (p ++ x :: t ++ r)).getD (p.length + 1) 0 = x := by
      rw [List.getD_cons_succ, List.append_assoc, List.getD_eq_getElem?_getD, List.getElem?_append_right (Nat.le_refl _)]; simp
    have hb := ht x (List.mem_cons_self ..)
    simp only [List.length_cons] at hlen hk
    simp only [iter, B130_0, nat_nn, nat_lt, d1, Bool.and_self, Bool.true_or, cond_true, Int.toNat_natCast, hg, F108_eq, hb, Option.bind_some, Bool.not_false, w64_nat (show p.length + 1 < 9223372036854775807 by omega)]
    have ih := L130_iter c r hr t (p ++ [x]) k (fun y hy => ht y (List.mem_cons_of_mem _ hy)) (by rw [List.length_append, List.length_singleton]; omega) (by omega)
    have e1 : p ++ [x] ++ t ++ r = p ++ x :: t ++ r := by simp
    have e2 : (p ++ [x]).length = p.length + 1 := by simp
    rw [e1, e2] at ih
    rw [ih, List.length_cons, show p.length + 1 + t.length + 1 = p.length + (t.length + 1) + 1 by omega]

theorem F130_eq (c : UInt8) (t r : List UInt8) (ht : ∀ x ∈ t, bl x = false) (hr : ∀ d, r.head? = some d → bl d = true) (hlen : t.length + r.length ≤ 1000000) :
    F130 (((), ()), ((c :: t ++ r, ()), ())) = some (c :: t, ((r, ()), ())) := by
  have hF := FUEL_big
  have h : L130_0 (((), (1:Int), ()), ((c :: (t ++ r), ()), ())) = _ := L130_iter c r hr t [] FUEL ht (by simpa using hlen) (by omega)
  have hl : (c :: (t ++ r)).length = t.length + 1 + r.length := by simp; omega
  have d1 : decide (((t.length + 1 : Nat) : Int) ≤ ((((c :: (t ++ r)).length) : Nat) : Int)) = true := by rw [hl, decide_eq_true_eq]; omega
  have e1 : List.take (t.length + 1) (c :: (t ++ r)) = c :: t := by simp
  have e2 : List.drop (t.length + 1) (c :: (t ++ r)) = r := by simp
  have e3 : List.take ((c :: (t ++ r)).length - (t.length + 1)) r = r := by rw [hl]; exact List.take_of_length_le (by omega)
  rw [List.cons_append]
  simp only [F130, h, Option.bind_some, List.nil_append, List.length_nil, Nat.zero_add, nat_nn, d1, Int.le_refl, decide_true, Bool.and_self, cond_true, Int.toNat_natCast, e1, e2, e3]

theorem flat_head (ws : List (List UInt8)) (h : ∀ w ∈ ws, wordOK w) : ∀ d, ws.flatten.head? = some d → bl d = true := by
  cases ws with
  | nil => intro d hd; cases hd
  | cons w ws =>
    obtain ⟨b, t, rfl, hb, _⟩ := h w (List.mem_cons_self ..)
    intro d hd
    simp at hd
    rw [← hd]
    exact hb

theorem L93_iter : ∀ (ws : List (List UInt8)) (k : Nat) (out now : List UInt8), (∀ w ∈ ws, wordOK w) → out.length + now.length + tot ws ≤ 100000 → ws.flatten.length ≤ 100000 → ws.length < k →
    iter B93_0 k ((out ++ now, ((now.length : Nat) : Int), false, (), ((), ()), ()), ((ws.flatten, ()), ())) = some ((((fw out now ws).1 ++ (fw out now ws).2), ()), ())
  | _, 0, _, _, _, _, _, h => absurd h (Nat.not_lt_zero _)
  | [], k + 1, out, now, _, _, _, _ => by
    simp only [iter, B93_0, List.flatten_nil, decide_true, Bool.not_true, cond_false, fw]
  | w :: ws, k + 1, out, now, hw, htot, hfl, hk => by
    have hr := flat_head ws fun x hx => hw x (List.mem_cons_of_mem _ hx)
    obtain ⟨c, t, rfl, hc, ht⟩ := hw w (List.mem_cons_self ..)
    have htt : tot ((c :: t) :: ws) = (c :: t).length + 2 + tot ws := by simp [tot]
    rw [htt] at htot
    simp only [List.flatten_cons, List.length_append, List.length_cons] at hfl htot hk
    have e := F130_eq c t ws.flatten ht hr (by omega)
    have hne : decide ((c :: t) ++ ws.flatten = []) = false := by simp
    have hs : w64 (((now.length : Nat) : Int) + (((c :: t).length : Nat) : Int)) = ((now.length + (c :: t).length : Nat) : Int) := by
      rw [List.length_cons, w64_id (by omega) (by omega)]; omega
    have hd : decide ((78:Int) < ((now.length + (c :: t).length : Nat) : Int)) = decide (78 < now.length + (c :: t).length) := by rw [decide_eq_decide]; omega
    simp only [iter, B93_0, List.flatten_cons, hne, Bool.not_false, cond_true, e, Option.bind_some, hs, hd, Bool.and_true, fw]
    have f2 : fits ((out ++ now).length + ([13, 10]:List UInt8).length) = true := by unfold fits; rw [decide_eq_true_eq]; simp; omega
    by_cases h : 78 < now.length + (c :: t).length
    · have ih := L93_iter ws k (out ++ now ++ [13, 10]) (c :: t) (fun x hx => hw x (List.mem_cons_of_mem _ hx)) (by simp only [List.length_append, List.length_cons, List.length_nil]; omega) (by omega) (by omega)
      have f3 : fits ((out ++ now ++ [13, 10]).length + (c :: t).length) = true := by unfold fits; rw [decide_eq_true_eq]; simp; omega
      have hz : w64 ((0:Int) + (((c :: t).length : Nat) : Int)) = (((c :: t).length : Nat) : Int) := by rw [Int.zero_add, List.length_cons]; exact w64_id (by omega) (by omega)
      simp only [h, decide_true, cond_true, f2, Option.bind_some, f3, hz, ↓reduceIte]
      exact ih
    · have ih := L93_iter ws k out (now ++ (c :: t)) (fun x hx => hw x (List.mem_cons_of_mem _ hx)) (by simp only [List.length_append, List.length_cons]; omega) (by omega) (by omega)
      have f3 : fits ((out ++ now).length + (c :: t).length) = true := by unfold fits; rw [decide_eq_true_eq]; simp; omega
      simp only [h, decide_false, cond_false, Option.bind_some, f3, cond_true, hs, ↓reduceIte]
      rw [List.append_assoc]
      rw [List.length_append] at ih
      exact ih

theorem F93_eq (n v : List UInt8) (hn : n.length ≤ 9223372036854775807) (hv : v.length ≤ 9223372036854775807) : F93 ((n, v, ()), ()) = some (fold n v, ()) := by
  have hF := FUEL_big
  simp only [F93, F110_eq n hn, Option.bind_some, fold]
  by_cases hrn : rn n = true
  case neg =>
    rw [Bool.not_eq_true] at hrn
    simp only [hrn, Bool.not_false, cond_true, Bool.false_eq_true, ↓reduceIte]
  simp only [hrn, Bool.not_true, cond_false, ↓reduceIte, F129_eq v hv, Option.bind_some]
  by_cases hok : okv v = true
  case neg =>
    rw [Bool.not_eq_true] at hok
    simp only [hok, Bool.false_eq_true, ↓reduceIte, show decide ((4:Int) = 0) = false from rfl, Bool.not_false, cond_true]
  simp only [hok, ↓reduceIte]
  by_cases hbig : 1024 < v.length ∨ lng v = true
  · simp only [hbig, ↓reduceIte, show decide ((6:Int) = 0) = false from rfl, Bool.not_false, cond_true]
  have hlen : v.length ≤ 1024 := by omega
  have hl := w1_lens v
  have h1 := ws_len _ (w1_snd v)
  have h2 := tot_le _ (w1_snd v)
  have hn24 : n.length ≤ 24 := by
    unfold rn at hrn
    simp only [Bool.and_eq_true, decide_eq_true_eq] at hrn
    exact hrn.2.2
  have f1 : fits (n.length + ([58]:List UInt8).length) = true := by unfold fits; rw [decide_eq_true_eq]; simp; omega
  have f2 : fits (([32]:List UInt8).length + v.length) = true := by unfold fits; rw [decide_eq_true_eq]; simp; omega
  simp only [hbig, ↓reduceIte, decide_true, Bool.not_true, cond_false, f1, f2, cond_true]
  have hloop : L93_0 (((n ++ [58]), (((n ++ ([58]:List UInt8)).length : Nat) : Int), true, (), ((), ()), ()), ((([32] ++ v), ()), ())) = some ((((fw [] (n ++ [58] ++ ([32] ++ (w1 v).1)) (w1 v).2).1 ++ (fw [] (n ++ [58] ++ ([32] ++ (w1 v).1)) (w1 v).2).2), ()), ()) := by
    obtain ⟨k, hk⟩ : ∃ k, FUEL = k + 1 := ⟨FUEL - 1, by omega⟩
    show loopOf B93_0 _ = _
    unfold loopOf
    rw [hk]
    have e := F130_eq 32 (w1 v).1 (w1 v).2.flatten (w1_fst v) (flat_head _ (w1_snd v)) (by omega)
    have hj : ([32] ++ v) = 32 :: (w1 v).1 ++ (w1 v).2.flatten := by
      show 32 :: v = 32 :: ((w1 v).1 ++ (w1 v).2.flatten)
      rw [← w1_join v]
    rw [hj]
    have hne : decide ((32 :: (w1 v).1) ++ (w1 v).2.flatten = []) = false := by simp
    have f3 : fits ((n ++ [58]).length + (32 :: (w1 v).1).length) = true := by
      unfold fits; rw [decide_eq_true_eq]; simp only [List.length_append, List.length_cons, List.length_nil]; omega
    have hs : w64 ((((n ++ ([58]:List UInt8)).length : Nat) : Int) + (((32 :: (w1 v).1).length : Nat) : Int)) = (((n ++ [58] ++ ([32] ++ (w1 v).1)).length : Nat) : Int) := by
      simp only [List.length_append, List.length_cons, List.length_nil]
      rw [w64_id (by omega) (by omega)]; omega
    simp only [iter, B93_0, hne, Bool.not_false, cond_true, e, Option.bind_some, Bool.not_true, Bool.and_false, cond_false, f3, hs]
    exact L93_iter (w1 v).2 k [] (n ++ [58] ++ ([32] ++ (w1 v).1)) (w1_snd v) (by simp only [List.length_append, List.length_cons, List.length_nil]; omega) (by omega) (by omega)
  have hfl := fw_len (w1 v).2 [] (n ++ [58] ++ ([32] ++ (w1 v).1))
  simp only [List.length_append, List.length_cons, List.length_nil] at hfl
  simp only [hloop, Option.bind_some]
  unfold lines
  generalize fw [] (n ++ [58] ++ ([32] ++ (w1 v).1)) (w1 v).2 = o at *
  have f4 : fits ((o.1 ++ o.2).length + ([13, 10]:List UInt8).length) = true := by
    unfold fits; rw [decide_eq_true_eq]; simp only [List.length_append, List.length_cons, List.length_nil]; omega
  simp only [f4, cond_true]

def lowc (c : UInt8) : UInt8 := if 65 ≤ c.toNat ∧ c.toNat ≤ 90 then c + 32 else c

theorem append_set {α : Type} : ∀ (a t : List α) (x y : α), (a ++ x :: t).set a.length y = a ++ y :: t
  | [], _, _, _ => rfl
  | b :: a, t, x, y => by
    simp only [List.cons_append, List.length_cons, List.set_cons_succ, append_set a t x y]

theorem drop_cons {α : Type} {s : List α} {i : Nat} {a : α} (hi : i < s.length) (ha : ∀ d, s.getD i d = a) : s.drop i = a :: s.drop (i + 1) := by
  rw [List.drop_eq_getElem_cons hi]
  have := ha s[i]
  rw [List.getD_eq_getElem?_getD, List.getElem?_eq_getElem hi] at this
  rw [show s[i] = a from this]

theorem foldS_push {α β τ : Type} (g : α → β) (fin : List β → τ) : ∀ (s : List α) (b : List β), foldS (fun a b => (.inl (b ++ [g a]) : List β ⊕ τ)) fin b s = fin (b ++ s.map g)
  | [], b => by simp [foldS]
  | a :: t, b => by
    simp only [foldS]
    rw [foldS_push g fin t]
    simp

theorem F40_eq (s : List UInt8) (hs : s.length ≤ maxLen) : F40 ((s, ()), ()) = some (s.map lowc, ()) := by
  have hF : maxLen < FUEL := by unfold maxLen FUEL; omega
  have hm : maxLen = 9223372036854775807 := rfl
  have h := walk_listI (f := B40_0) (fun (b : List UInt8) i => (((), (), ((s.length : Nat) : Int), (i : Int), ()), (b ++ s.drop i, ()))) s (fun a b => .inl (b ++ [lowc a])) (fun b => (((), ()), (b, ()))) (fun b i => b.length = i) (b := [])
    (fun b i a hI hi ha => .inl ⟨_, rfl, by rw [List.length_append, hI]; rfl, by
      subst hI
      have hd := drop_cons hi ha
      have hlt : b.length < (b ++ s.drop b.length).length := by rw [hd]; simp
      have hg : (b ++ s.drop b.length).getD b.length 0 = a := by
        rw [hd, List.getD_eq_getElem?_getD, List.getElem?_append_right (Nat.le_refl _)]
        simp
      have hset : (b ++ s.drop b.length).set b.length (a + 32) = b ++ [a + 32] ++ s.drop (b.length + 1) := by
        rw [hd, append_set]; simp
      have hkeep : b ++ s.drop b.length = b ++ [a] ++ s.drop (b.length + 1) := by
        rw [hd]; simp
      simp only [B40_0, nat_lt, nat_nn, hi, hlt, decide_true, Bool.and_true, cond_true, Int.toNat_natCast, hg, hset, w64_nat (show b.length < 9223372036854775807 by omega), show UInt8.toNat 65 = 65 from rfl, show UInt8.toNat 90 = 90 from rfl]
      unfold lowc
      by_cases h1 : 65 ≤ a.toNat
      · by_cases h2 : a.toNat ≤ 90
        · simp only [h1, h2, decide_true, Bool.and_self, cond_true, Option.bind_some, and_self, ↓reduceIte, w64_nat (show b.length < 9223372036854775807 by omega)]
        · simp only [h1, h2, decide_true, decide_false, Bool.and_false, cond_false, Option.bind_some, and_false, ↓reduceIte, ← hkeep, w64_nat (show b.length < 9223372036854775807 by omega)]
      · simp only [h1, decide_false, Bool.false_and, cond_false, Option.bind_some, false_and, ↓reduceIte, ← hkeep, w64_nat (show b.length < 9223372036854775807 by omega)]⟩)
    (fun b _ => by simp only [B40_0, Int.lt_irrefl, decide_false, cond_false, List.drop_length, List.append_nil]) (by omega) rfl
  rw [foldS_push] at h
  have h' : L40_0 (((), (), ((s.length : Nat) : Int), (0:Int), ()), (s, ())) = some (((), ()), (s.map lowc, ())) := h
  simp only [F40, h', Option.bind_some]

end Go.Vw

namespace Go.Vw
open Go Go.Ev
set_option maxRecDepth 100000

theorem le_len {n : Nat} {s : List UInt8} (h : n ≤ s.length) : decide ((n : Int) ≤ (s.length : Int)) = true := decide_eq_true (by omega)

theorem dec_ok (s : List UInt8) (pos : Nat) (h : pos < s.length) : 1 ≤ (Utf8.decode ⟨s.toArray⟩ pos).2 ∧ pos + (Utf8.decode ⟨s.toArray⟩ pos).2 ≤ s.length := by
  have e : Utf8.decode ⟨s.toArray⟩ pos = Lib.decodeL (s.drop pos) := by rw [← Lib.decodeL_drop]
  have h1 := Lib.decodeL_width (s.drop pos)
  have h2 := Lib.decodeL_le (s.drop pos) (fun h0 => by
    have := congrArg List.length h0
    rw [List.length_drop] at this
    simp at this
    omega)
  rw [List.length_drop] at h2
  rw [e]
  omega

theorem dec_low (l : List UInt8) : ((l.getD 0 0).toNat < 128 → Lib.decodeL l = ((l.getD 0 0).toNat, 1)) ∧ (128 ≤ (l.getD 0 0).toNat → 128 ≤ (Lib.decodeL l).1) := by
  have k0 := (l.getD 0 0).toNat_lt
  have hN := Lib.decodeL_N l
  refine ⟨fun h => ?_, fun h => ?_⟩
  · rw [hN]; unfold Lib.decodeN; rw [if_pos h]
  · rcases Lib.decodeN_shape l.length (l.getD 0 0).toNat (l.getD 1 0).toNat (l.getD 2 0).toNat (l.getD 3 0).toNat with ⟨c, e⟩ | ⟨c1, c2, c3, cv, e⟩ | ⟨c1, c2, c3, c4, cv, cs, e⟩ | ⟨c1, c2, c3, c4, c5, cv, cw, e⟩ | e
    all_goals (rw [hN, e]; dsimp only; omega)

/-- what a letter is of which the first byte is known -/
theorem letter_is (r : List UInt8) (hne : r ≠ []) (b : UInt8) (hb : b.toNat < 128) : decide (r.take (Lib.decodeL r).2 = [b]) = decide (((Lib.decodeL r).1 : Int) = (b.toNat : Int)) := by
  rw [decide_eq_decide]
  obtain ⟨a, t, rfl⟩ : ∃ a t, r = a :: t := by
    cases r with
    | nil => exact absurd rfl hne
    | cons a t => exact ⟨a, t, rfl⟩
  obtain ⟨h1, h2⟩ := dec_low (a :: t)
  simp only [List.getD_cons_zero] at h1 h2
  by_cases ha : a.toNat < 128
  · rw [h1 ha]
    simp only [List.take_succ_cons, List.take_zero, List.cons.injEq, and_true]
    exact ⟨fun h => by rw [h], fun h => UInt8.toNat_inj.1 (by omega)⟩
  · have h3 := h2 (by omega)
    constructor
    · intro h
      exfalso
      have hw := Lib.decodeL_width (a :: t)
      obtain ⟨w, hw'⟩ : ∃ w, (Lib.decodeL (a :: t)).2 = w + 1 := ⟨(Lib.decodeL (a :: t)).2 - 1, by omega⟩
      rw [hw', List.take_succ_cons] at h
      simp only [List.cons.injEq] at h
      rw [h.1] at ha
      omega
    · intro h; omega

def ltsF : Nat → List UInt8 → List (List UInt8)
  | 0, _ => []
  | k + 1, r => if r = [] then [] else r.take (Lib.decodeL r).2 :: ltsF k (r.drop (Lib.decodeL r).2)

theorem ltsF_same : ∀ (k k' : Nat) (r : List UInt8), r.length ≤ k → r.length ≤ k' → ltsF k r = ltsF k' r
  | 0, k', r, h, _ => by
    have : r = [] := List.eq_nil_of_length_eq_zero (by omega)
    subst this
    cases k' <;> simp [ltsF]
  | k + 1, 0, r, _, h => by
    have : r = [] := List.eq_nil_of_length_eq_zero (by omega)
    subst this
    simp [ltsF]
  | k + 1, k' + 1, r, h, h' => by
    rw [ltsF, ltsF]
    by_cases hr : r = []
    · rw [if_pos hr, if_pos hr]
    · have := Lib.decodeL_width r
      have hl : 0 < r.length := List.length_pos_iff.2 hr
      rw [if_neg hr, if_neg hr, ltsF_same k k' _ (by simp; omega) (by simp; omega)]

def lts (r : List UInt8) : List (List UInt8) := ltsF r.length r

theorem lts_nil : lts [] = [] := rfl

theorem lts_step {r : List UInt8} (hr : r ≠ []) : lts r = r.take (Lib.decodeL r).2 :: lts (r.drop (Lib.decodeL r).2) := by
  have hl : 0 < r.length := List.length_pos_iff.2 hr
  have := Lib.decodeL_width r
  obtain ⟨n, hn⟩ : ∃ n, r.length = n + 1 := ⟨r.length - 1, by omega⟩
  unfold lts
  rw [hn, ltsF, if_neg hr, ltsF_same n _ _ (by simp; omega) (Nat.le_refl _)]

theorem lts_len : ∀ (n : Nat) (r : List UInt8), r.length ≤ n → (lts r).length ≤ r.length
  | n, r, h => by
    by_cases hr : r = []
    · subst hr; simp [lts_nil]
    · have := Lib.decodeL_width r
      have hl : 0 < r.length := List.length_pos_iff.2 hr
      cases n with
      | zero => omega
      | succ n =>
        have := lts_len n (r.drop (Lib.decodeL r).2) (by simp; omega)
        rw [List.length_drop] at this
        rw [lts_step hr, List.length_cons]
        omega

theorem goL (r : List UInt8) (hr : r ≠ []) : Lib.decodeGo ⟨r.toArray⟩ = Lib.decodeL r := by
  have hl : 0 < r.length := List.length_pos_iff.2 hr
  unfold Lib.decodeGo
  rw [if_neg (by show ¬ r.toArray.size = 0; simp; exact hr)]
  rfl

/-- the reference's letters -/
theorem F50_eq (s : List UInt8) (hs : s.length ≤ 8000000) : F50 ((s, ()), ()) = some ((), (lts s, ())) := by
  obtain ⟨r, h1, rfl⟩ := loop_ind (f := B50_0)
    (I := fun p => ∃ (t : List UInt8) (out : List (List UInt8)), p = ((t, (), ()), (out, ())) ∧ out.length + t.length ≤ s.length ∧ out ++ lts t = lts s)
    (μ := fun p => p.1.1.length)
    (Q := fun r => r = (((), ()), (lts s, ())))
    (step := fun p hp => by
      obtain ⟨t, out, rfl, g, g2⟩ := hp
      by_cases ht : t = []
      · subst ht
        refine .inr ⟨(((), ()), (out, ())), rfl, ?_⟩
        rw [← g2, lts_nil, List.append_nil]
      · have hl : 0 < t.length := List.length_pos_iff.2 ht
        have hw := Lib.decodeL_width t
        have hle := Lib.decodeL_le t ht
        have hgo := goL t ht
        rw [lts_step ht] at g2
        have e1 : decide ((0 : Int) < (t.length : Int)) = true := decide_eq_true (by omega)
        generalize Lib.decodeL t = d at *
        have e2 : decide ((0 : Int) ≤ (d.2 : Int)) = true := decide_eq_true (by omega)
        have e3 : decide ((d.2 : Int) ≤ (t.length : Int)) = true := decide_eq_true (by omega)
        have e4 : bytesOK (out.length + ([t.take d.2] : List (List UInt8)).length) 16 = true := decide_eq_true (by simp; omega)
        have e5 : List.take (t.length - d.2) (List.drop d.2 t) = t.drop d.2 := List.take_of_length_le (by simp)
        refine .inl ⟨((t.drop d.2, (), ()), (out ++ [t.take d.2], ())), ?_, ⟨_, _, rfl, by simp; omega, by rw [List.append_assoc]; exact g2⟩, by show (t.drop d.2).length < t.length; simp; omega⟩
        simp only [B50_0, e1, cond_true, hgo, e2, e3, Bool.and_self, Int.toNat_natCast, e4, Option.bind_some, le_len (Nat.le_refl _), e5])
    (p := ((s, (), ()), (([] : List (List UInt8)), ()))) ⟨s, [], rfl, by simp, rfl⟩ (by have := FUEL_big; show s.length < FUEL; omega)
  have h1' : L50_0 ((s, (), ()), (([] : List (List UInt8)), ())) = some (((), ()), (lts s, ())) := h1
  simp only [F50, h1', Option.bind_some]

end Go.Vw

namespace Go.Vw
open Go Go.Ev
set_option maxRecDepth 100000

theorem F22_eq (s : List UInt8) (hs : s.length ≤ 8000000) : F22 ((s, ()), ()) = some (s.map lowc, ()) := by
  have hF := FUEL_big
  have h := walk_listI (f := B22_0) (fun (b : List UInt8) i => ((s, b, (i : Int), ()), ())) s (fun a b => .inl (b ++ [lowc a])) (fun b => ((b, ()), ())) (fun b i => b.length = i) (b := [])
    (fun b i a hI hi ha => .inl ⟨_, rfl, by rw [List.length_append, hI]; rfl, by
      have hw := w64_nat (show i < 9223372036854775807 by omega)
      have hg := ha 0
      have hf : ∀ x : UInt8, fits (b.length + ([x] : List UInt8).length) = true := fun x => decide_eq_true (by simp; omega)
      have z1 : UInt8.toNat 65 = 65 := rfl
      have z2 : UInt8.toNat 90 = 90 := rfl
      unfold lowc
      by_cases h1 : 65 ≤ a.toNat
      · by_cases h2 : a.toNat ≤ 90
        · simp only [B22_0, nat_lt, nat_nn, hi, decide_true, Bool.and_self, cond_true, Int.toNat_natCast, hg, z1, z2, h1, h2, Option.bind_some, hf, hw, and_self, if_true]
        · simp only [B22_0, nat_lt, nat_nn, hi, decide_true, decide_false, Bool.and_self, Bool.and_false, cond_true, cond_false, Int.toNat_natCast, hg, z1, z2, h1, h2, Option.bind_some, hf, hw, and_false, if_false]
      · simp only [B22_0, nat_lt, nat_nn, hi, decide_true, decide_false, Bool.and_self, Bool.false_and, cond_true, cond_false, Int.toNat_natCast, hg, z1, z2, h1, Option.bind_some, hf, hw, false_and, if_false]⟩)
    (fun b _ => by simp only [B22_0, Int.lt_irrefl, decide_false, cond_false]) (by omega) rfl
  rw [foldS_push] at h
  have h' : L22_0 ((s, ([]:List UInt8), (0:Int), ()), ()) = some ((s.map lowc, ()), ()) := h
  simp only [F22, h', Option.bind_some]

theorem F21_eq (a b : List UInt8) (ha : a.length ≤ maxLen) (hb : b.length ≤ maxLen) : F21 ((a, b, ()), ()) = some (decide (a.map lowc = b.map lowc), ()) := by
  simp only [F21, F40_eq a ha, F40_eq b hb, Option.bind_some]

end Go.Vw
