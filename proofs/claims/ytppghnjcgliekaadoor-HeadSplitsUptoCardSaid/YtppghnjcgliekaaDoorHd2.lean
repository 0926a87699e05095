/- Texts without blanks at their ends; atoms. -/
import Derived.Test.YtppghnjcgliekaaDoorHdL
import Derived.Lib.TrimUEq
import Derived.Lib.MapLaws
import Derived.Lib.TrimAscii
namespace Go.Hd
open Go Go.Ev
set_option maxRecDepth 100000

def bl (c : UInt8) : Bool := decide (c = 32) || decide (c = 9)

theorem bl_contains (c : UInt8) : ([32, 9] : List UInt8).contains c = bl c := by
  by_cases h1 : c = 32
  · subst h1; rfl
  · by_cases h2 : c = 9
    · subst h2; rfl
    · simp [bl, h1, h2]

/-- without blanks at the end -/
def rtr : List UInt8 → List UInt8
  | [] => []
  | a :: t => if rtr t = [] ∧ bl a = true then [] else a :: rtr t

theorem rtr_snoc : ∀ (l : List UInt8) (a : UInt8), rtr (l ++ [a]) = if bl a = true then rtr l else l ++ [a]
  | [], a => by
    by_cases h : bl a = true <;> simp [rtr, h]
  | b :: l, a => by
    simp only [List.cons_append, rtr, rtr_snoc l a]
    by_cases h : bl a = true
    · simp [h]
    · simp [h]

theorem rtr_eq (l : List UInt8) : Go.Lib.trimRightS l [32, 9] = rtr l := by
  unfold Go.Lib.trimRightS
  have : ∀ r : List UInt8, (r.dropWhile (fun x => ([32, 9] : List UInt8).contains x)).reverse = rtr r.reverse := by
    intro r
    induction r with
    | nil => rfl
    | cons a t ih =>
      rw [List.reverse_cons, rtr_snoc, List.dropWhile_cons]
      simp only [bl_contains] at *
      by_cases h : bl a = true
      · rw [if_pos h, if_pos h]; exact ih
      · rw [if_neg h, if_neg h]; simp
  have := this l.reverse
  rw [List.reverse_reverse] at this
  exact this

def ltr (l : List UInt8) : List UInt8 := l.dropWhile bl

theorem ltr_eq (l : List UInt8) : Go.Lib.trimLeftS l [32, 9] = ltr l := by
  unfold Go.Lib.trimLeftS ltr
  congr 1
  funext x
  exact bl_contains x

theorem trims_swap : ∀ l : List UInt8, ltr (rtr l) = rtr (ltr l)
  | [] => rfl
  | a :: t => by
    have ih := trims_swap t
    by_cases h : bl a = true
    · have e : ltr (a :: t) = ltr t := by simp [ltr, h]
      rw [e]
      by_cases h0 : rtr t = []
      · rw [← ih, h0]
        simp [rtr, h0, h]
      · have : rtr (a :: t) = a :: rtr t := by simp [rtr, h0]
        rw [this, ← ih]
        simp [ltr, h]
    · have e : ltr (a :: t) = a :: t := by simp [ltr, h]
      have : rtr (a :: t) = a :: rtr t := by simp [rtr, h]
      rw [e, this]
      simp [ltr, h]

def trm (l : List UInt8) : List UInt8 := rtr (ltr l)

theorem trimS_eq (l : List UInt8) : Go.Lib.trimS l [32, 9] = trm l := by
  unfold Go.Lib.trimS
  rw [rtr_eq, ltr_eq, trims_swap]
  rfl

theorem F36_eq (s : List UInt8) (hs : s.length ≤ 9223372036854775807) : F36 ((s, ()), ()) = some (trm s, ()) := by
  simp only [F36, hs, decide_true, Bool.and_self, cond_true, trimS_eq]

theorem F29_eq (c : UInt8) : F29 ((c, ()), ()) = some (bl c, ()) := by
  simp only [F29, bl]

theorem F25_eq (c : UInt8) : F25 ((c, ()), ()) = some (bl c, ()) := by
  simp only [F25, bl]

theorem L32a_eq : ∀ (s : List UInt8) (k : Nat), s.length < k → iter B32_0 k ((s, ()), ()) = some ((ltr s, ()), ())
  | _, 0, h => absurd h (Nat.not_lt_zero _)
  | [], k + 1, _ => rfl
  | a :: t, k + 1, h => by
    have c1 : decide ((0:Int) < (((a :: t).length : Nat) : Int)) = true := by rw [decide_eq_true_eq, List.length_cons]; omega
    have c2 : decide ((1:Int) ≤ (((a :: t).length : Nat) : Int)) = true := by rw [decide_eq_true_eq, List.length_cons]; omega
    have hg : (a :: t).getD 0 0 = a := rfl
    simp only [iter, B32_0, c1, Bool.true_or, cond_true, hg, F29_eq, Option.bind_some]
    by_cases hb : bl a = true
    · have ht : List.take (Int.toNat (((a :: t).length : Nat) : Int) - 1) (List.drop 1 (a :: t)) = t := by
        rw [Int.toNat_natCast]; simp
      have e : ltr (a :: t) = ltr t := by simp [ltr, hb]
      simp only [hb, cond_true, c2, Int.le_refl, decide_true, Bool.and_self, Option.bind_some, ht, e]
      exact L32a_eq t k (by simp only [List.length_cons] at h; omega)
    · have e : ltr (a :: t) = a :: t := by simp [ltr, hb]
      rw [Bool.not_eq_true] at hb
      simp only [hb, cond_false, e]

theorem L32b_eq : ∀ (k : Nat) (s : List UInt8), s.length ≤ 1100000 → s.length < k → iter B32_1 k ((s, ()), ()) = some ((rtr s, ()), ())
  | 0, _, _, h => absurd h (Nat.not_lt_zero _)
  | k + 1, s, hs, h => by
    rcases List.eq_nil_or_concat s with rfl | ⟨l, a, rfl⟩
    · rfl
    · rw [List.concat_eq_append] at *
      have hlen : (l ++ [a]).length = l.length + 1 := by simp
      have hw : w64 ((((l ++ [a]).length : Nat) : Int) - 1) = (l.length : Int) := by
        rw [hlen] at hs ⊢
        rw [w64_id (by omega) (by omega)]; omega
      have c1 : decide ((0:Int) < (((l ++ [a]).length : Nat) : Int)) = true := by rw [decide_eq_true_eq, hlen]; omega
      have c2 : l.length < (l ++ [a]).length := by omega
      have c3 : decide ((l.length : Int) ≤ (((l ++ [a]).length : Nat) : Int)) = true := by rw [decide_eq_true_eq, hlen]; omega
      have hg : (l ++ [a]).getD l.length 0 = a := by
        rw [List.getD_eq_getElem?_getD, List.getElem?_append_right (Nat.le_refl _)]; simp
      simp only [iter, B32_1, hw, c1, nat_nn, nat_lt, c2, decide_true, Bool.and_self, Bool.true_or, cond_true, Int.toNat_natCast, hg, F29_eq, Option.bind_some, rtr_snoc]
      by_cases hb : bl a = true
      · have ht : List.take l.length (l ++ [a]) = l := by simp
        simp only [hb, cond_true, c3, Bool.and_self, Option.bind_some, ht, ↓reduceIte]
        exact L32b_eq k l (by omega) (by omega)
      · have hb' := hb
        rw [Bool.not_eq_true] at hb'
        simp only [hb', cond_false, Bool.false_eq_true, ↓reduceIte]

theorem ltr_len (s : List UInt8) : (ltr s).length ≤ s.length := by
  unfold ltr
  exact (List.dropWhile_sublist _).length_le

theorem rtr_len : ∀ s : List UInt8, (rtr s).length ≤ s.length
  | [] => Nat.le_refl _
  | a :: t => by
    have := rtr_len t
    unfold rtr
    split
    · exact Nat.zero_le _
    · simp only [List.length_cons]; omega

theorem trm_len (s : List UInt8) : (trm s).length ≤ s.length := Nat.le_trans (rtr_len _) (ltr_len _)

theorem F32_eq (s : List UInt8) (hs : s.length ≤ 1100000) : F32 ((s, ()), ()) = some (trm s, ()) := by
  have h1 : L32_0 ((s, ()), ()) = some ((ltr s, ()), ()) := L32a_eq s FUEL (by unfold FUEL; omega)
  have hl := ltr_len s
  have h2 : L32_1 ((ltr s, ()), ()) = some ((rtr (ltr s), ()), ()) := L32b_eq FUEL (ltr s) (by omega) (by unfold FUEL; omega)
  simp only [F32, h1, h2, Option.bind_some, trm]

/-! atoms -/
def badL : List UInt8 := [40, 41, 123, 37, 42, 34, 92, 93]

theorem ub (a k : UInt8) : (a == k) = decide (a.toNat = k.toNat) := by
  rw [Bool.eq_iff_iff, beq_iff_eq, decide_eq_true_eq, UInt8.toNat_inj]

theorem cond_or {α β : Type} (s : α) (q : β) (A X : Bool) : cond A (some ((s, (), A, ()), q)) (some ((s, (), X, ()), q)) = some ((s, (), (A || X), ()), q) := by
  cases A <;> rfl

def gd (c : UInt8) : Bool := decide (33 ≤ c.toNat) && decide (c.toNat ≤ 126) && !(badL.contains c)

def atom (s : List UInt8) : Bool := !s.isEmpty && s.all gd

theorem L41b_eq (s : List UInt8) (i : Nat) (a : UInt8) (hi : i < s.length) (ha : s.getD i 0 = a) :
    L41_1 ((s, (i : Int), (0:Int), ()), ()) = some (if badL.contains a then .inr (((), ()), ()) else .inl ((s, (i : Int), ()), ())) := by
  have hF := FUEL_big
  have h := walk_list (f := B41_1) (fun (_ : Unit) k => ((s, (i : Int), (k : Int), ()), ())) badL (fun x _ => if x == a then .inr (.inr (((), ()), ())) else .inl ()) (fun _ => .inl ((s, (i : Int), ()), ())) (b := ())
    (fun b k x hk hx => by
      have hk8 : k < 8 := hk
      have c1 : decide ((k : Int) < 8) = true := by rw [decide_eq_true_eq]; omega
      have hx0 : List.getD ([40, 41, 123, 37, 42, 34, 92, 93]:List UInt8) k 0 = x := hx 0
      have hx125 : x ≠ 125 := by
        have : x ∈ badL := by
          rw [← hx 0, List.getD_eq_getElem?_getD, List.getElem?_eq_getElem hk]
          exact List.getElem_mem hk
        intro e
        rw [e] at this
        revert this
        decide
      simp only [B41_1, c1, nat_nn, nat_lt, hi, decide_true, Bool.and_self, Bool.true_or, cond_true, Int.toNat_natCast, ha, hx0, w64_nat (show k < 9223372036854775807 by omega)]
      by_cases he : a = x
      · subst he
        have hne : ¬ a = 125 := hx125
        simp [hne]
      · have hne : ¬ (x == a) = true := fun h => he (by simpa using (eq_of_beq h).symm)
        simp [he, hne])
    (fun b => rfl) (by show 8 < FUEL; omega)
  have h' : L41_1 ((s, (i : Int), (0:Int), ()), ()) = _ := h
  rw [h']
  have : ∀ l : List UInt8, foldS (fun x (_ : Unit) => if x == a then (.inr (.inr (((), ()), ())) : Unit ⊕ (((List UInt8 × Int × Unit) × Unit) ⊕ ((Unit × Unit) × Unit))) else .inl ()) (fun _ => .inl ((s, (i : Int), ()), ())) () l = if l.contains a then .inr (((), ()), ()) else .inl ((s, (i : Int), ()), ()) := by
    intro l
    induction l with
    | nil => rfl
    | cons x t ih =>
      simp only [foldS]
      by_cases hxa : x = a
      · subst hxa; simp
      · have h1 : ¬ (x == a) = true := fun h => hxa (eq_of_beq h)
        have h2 : ¬ (a == x) = true := fun h => hxa (eq_of_beq h).symm
        rw [if_neg h1]
        simp only
        rw [ih]
        simp only [List.contains_cons, h2, Bool.false_or]
  rw [this]

theorem foldS_all {α τ : Type} (g : α → Bool) (y : τ) (n : τ) : ∀ (s : List α), foldS (fun a (_ : Unit) => if g a = true then (.inl () : Unit ⊕ τ) else .inr n) (fun _ => y) () s = if s.all g then y else n
  | [] => rfl
  | a :: t => by
    simp only [foldS, List.all_cons]
    by_cases h : g a = true
    · simp only [h, ↓reduceIte, Bool.true_and]
      exact foldS_all g y n t
    · simp only [h, ↓reduceIte, Bool.false_and, Bool.false_eq_true]

theorem F41_eq (s : List UInt8) (hs : s.length ≤ 1100000) : F41 ((s, ()), ()) = some (atom s, ()) := by
  have hF := FUEL_big
  have h := walk_list (f := B41_0) (fun (_ : Unit) i => ((s, (i : Int), ()), ())) s (fun a _ => if gd a = true then .inl () else .inr (.inr (((), ()), ()))) (fun _ => .inl ((s, ()), ())) (b := ())
    (fun b i a hi ha => by
      have e1 := L41b_eq s i a hi (ha 0)
      simp only [B41_0, nat_nn, nat_lt, hi, decide_true, Bool.and_self, Bool.true_or, cond_true, Int.toNat_natCast, ha, show UInt8.toNat 33 = 33 from rfl, show UInt8.toNat 126 = 126 from rfl]
      unfold gd
      by_cases h1 : a.toNat < 33
      · have : ¬ 33 ≤ a.toNat := by omega
        simp only [h1, this, decide_true, decide_false, Bool.true_or, Bool.false_and, cond_true, Bool.false_eq_true, ↓reduceIte, Option.bind_some]
      · by_cases h2 : 126 < a.toNat
        · have : ¬ a.toNat ≤ 126 := by omega
          simp only [h2, this, decide_true, decide_false, Bool.or_true, Bool.and_false, Bool.false_and, cond_true, Bool.false_eq_true, ↓reduceIte, Option.bind_some]
        · have h3 : 33 ≤ a.toNat := by omega
          have h4 : a.toNat ≤ 126 := by omega
          simp only [h1, h2, h3, h4, decide_true, decide_false, Bool.or_self, Bool.true_and, cond_false]
          rw [e1]
          cases badL.contains a
          · simp only [Bool.false_eq_true, ↓reduceIte, Option.bind_some, Bool.not_false, w64_nat (show i < 9223372036854775807 by omega)]
          · simp only [↓reduceIte, Option.bind_some, Bool.not_true, Bool.false_eq_true])
    (fun b => by simp only [B41_0, Int.lt_irrefl, decide_false, cond_false]) (by omega)
  rw [foldS_all] at h
  have h' : L41_0 ((s, (0:Int), ()), ()) = _ := h
  simp only [F41, h', atom]
  cases s with
  | nil => rfl
  | cons c t =>
    have c1 : decide ((0:Int) < (((c :: t).length : Nat) : Int)) = true := by rw [decide_eq_true_eq, List.length_cons]; omega
    cases (c :: t).all gd
    · simp
    · simp only [↓reduceIte, Option.bind_some, c1, List.isEmpty_cons, Bool.not_false, Bool.and_self]

theorem dec_at {s : List UInt8} {i : Nat} (h : i < s.length) : Utf8.decode ⟨s.toArray⟩ i = Lib.decodeL (s.drop i) := by
  rw [← Lib.decodeL_drop]

theorem decodeN_big (n b0 b1 b2 b3 : Nat) (h : 128 ≤ b0) : 128 ≤ (Lib.decodeN n b0 b1 b2 b3).1 := by
  unfold Lib.decodeN
  repeat' split
  all_goals simp only
  all_goals omega

theorem dec_big {b : UInt8} {t : List UInt8} (h : 128 ≤ b.toNat) : 128 ≤ (Lib.decodeL (b :: t)).1 := by
  rw [Lib.decodeL_N]
  exact decodeN_big _ _ _ _ _ h

theorem gd_rune (b : UInt8) (v : Int) (h1 : b.toNat < 128 → v = (b.toNat : Int)) (h2 : 128 ≤ b.toNat → 128 ≤ v) :
    ((decide (v ≤ 32) || decide (126 < v)) || (decide (v = 40) || (decide (v = 41) || (decide (v = 123) || (decide (v = 37) || (decide (v = 42) || (decide (v = 34) || (decide (v = 92) || decide (v = 93))))))))) = !gd b := by
  unfold gd badL
  simp only [List.contains_cons, List.contains_nil, Bool.or_false, ub, show UInt8.toNat 40 = 40 from rfl, show UInt8.toNat 41 = 41 from rfl, show UInt8.toNat 123 = 123 from rfl, show UInt8.toNat 37 = 37 from rfl, show UInt8.toNat 42 = 42 from rfl, show UInt8.toNat 34 = 34 from rfl, show UInt8.toNat 92 = 92 from rfl, show UInt8.toNat 93 = 93 from rfl]
  rw [Bool.eq_iff_iff]
  simp only [Bool.or_eq_true, Bool.and_eq_true, Bool.not_eq_true', Bool.and_eq_false_iff, Bool.not_eq_false', decide_eq_true_eq, decide_eq_false_iff_not]
  rcases Nat.lt_or_ge b.toNat 128 with h | h
  · have := h1 h; omega
  · have := h2 h; omega

theorem L38_iter (s : List UInt8) : ∀ (k i : Nat), i ≤ s.length → s.length - i < k →
    iter B38_0 k ((s, (), ()), ((s, i), ())) = some (if (s.drop i).all gd then .inl ((s, ()), ()) else .inr (((), ()), ()))
  | 0, _, _, h => absurd h (Nat.not_lt_zero _)
  | k + 1, i, hi, hk => by
    by_cases hlt : i < s.length
    · have hd := List.drop_eq_getElem_cons hlt
      generalize hb : s[i] = b at hd
      have hg := gd_rune b ((Lib.decodeL (b :: s.drop (i + 1))).1 : Int) (fun h => by rw [Lib.decodeL_ascii b _ h]) (fun h => by
        have := dec_big (t := s.drop (i + 1)) h
        omega)
      simp only [iter, B38_0, hlt, decide_true, cond_true, dec_at hlt]
      rw [hd]
      simp only [cond_or, hg, Option.bind_some, List.all_cons]
      by_cases h : gd b = true
      case neg =>
        rw [Bool.not_eq_true] at h
        simp only [h, Bool.not_false, cond_true, Bool.false_and, Bool.false_eq_true, ↓reduceIte]
      · have h128 : b.toNat < 128 := by
          unfold gd at h
          simp only [Bool.and_eq_true, decide_eq_true_eq] at h
          omega
        have ih := L38_iter s k (i + 1) (by omega) (by omega)
        simp only [h, Bool.not_true, cond_false, Bool.true_and]
        rw [Lib.decodeL_ascii b _ h128]
        exact ih
    · obtain rfl : i = s.length := by omega
      simp only [iter, B38_0, Nat.lt_irrefl, decide_false, cond_false, List.drop_length, List.all_nil, ↓reduceIte]

theorem F38_eq (s : List UInt8) (hs : s.length ≤ 1100000) : F38 ((s, ()), ()) = some (atom s, ()) := by
  have h : L38_0 ((s, (), ()), ((s, 0), ())) = _ := L38_iter s FUEL 0 (Nat.zero_le _) (by unfold FUEL; omega)
  rw [List.drop_zero] at h
  simp only [F38, h, atom]
  cases s with
  | nil => rfl
  | cons c t =>
    cases (c :: t).all gd
    · simp
    · simp

end Go.Hd
