/- Texts without blanks at their ends; atoms. -/
import Derived.Test.YtppghnjcgliekaaDoorHdL
import Derived.Lib.TrimUEq
import Derived.Lib.MapLaws
import Derived.Lib.TrimAscii
import Derived.Lib.IndexBytes
namespace Go.Hd
open Go Go.Ev
set_option maxRecDepth 100000

def bl (c : UInt8) : Bool := decide (c = 32) || decide (c = 9)

theorem bl_contains (c : UInt8) : ([32, 9] : List UInt8).contains c = bl c := by
  by_cases h1 : c = 32
  · subst h1; rfl
  · by_cases h2 : c = 9
    · subst h2; rfl
    · simp [bl, h1, h2]

/-- without blanks at the end -/
def rtr : List UInt8 → List UInt8
  | [] => []
  | a :: t => if rtr t = [] ∧ bl a = true then [] else a :: rtr t

theorem rtr_snoc : ∀ (l : List UInt8) (a : UInt8), rtr (l ++ [a]) = if bl a = true then rtr l else l ++ [a]
  | [], a => by
    by_cases h : bl a = true <;> simp [rtr, h]
  | b :: l, a => by
    simp only [List.cons_append, rtr, rtr_snoc l a]
    by_cases h : bl a = true
    · simp [h]
    · simp [h]

theorem rtr_eq (l : List UInt8) : Go.Lib.trimRightS l [32, 9] = rtr l := by
  unfold Go.Lib.trimRightS
  have : ∀ r : List UInt8, (r.dropWhile (fun x => ([32, 9] : List UInt8).contains x)).reverse = rtr r.reverse := by
    intro r
    induction r with
    | nil => rfl
    | cons a t ih =>
      rw [List.reverse_cons, rtr_snoc, List.dropWhile_cons]
      simp only [bl_contains] at *
      by_cases h : bl a = true
      · rw [if_pos h, if_pos h]; exact ih
      · rw [if_neg h, if_neg h]; simp
  have := this l.reverse
  rw [List.reverse_reverse] at this
  exact this

def ltr (l : List UInt8) : List UInt8 := l.dropWhile bl

theorem ltr_eq (l : List UInt8) : Go.Lib.trimLeftS l [32, 9] = ltr l := by
  unfold Go.Lib.trimLeftS ltr
  congr 1
  funext x
  exact bl_contains x

theorem trims_swap : ∀ l : List UInt8, ltr (rtr l) = rtr (ltr l)
  | [] => rfl
  | a :: t => by
    have ih := trims_swap t
    by_cases h : bl a = true
    · have e : ltr (a :: t) = ltr t := by simp [ltr, h]
      rw [e]
      by_cases h0 : rtr t = []
      · rw [← ih, h0]
        simp [rtr, h0, h]
      · have : rtr (a :: t) = a :: rtr t := by simp [rtr, h0]
        rw [this, ← ih]
        simp [ltr, h]
    · have e : ltr (a :: t) = a :: t := by simp [ltr, h]
      have : rtr (a :: t) = a :: rtr t := by simp [rtr, h]
      rw [e, this]
      simp [ltr, h]

def trm (l : List UInt8) : List UInt8 := rtr (ltr l)

theorem trimS_eq (l : List UInt8) : Go.Lib.trimS l [32, 9] = trm l := by
  unfold Go.Lib.trimS
  rw [rtr_eq, ltr_eq, trims_swap]
  rfl

theorem F36_eq (s : List UInt8) (hs : s.length ≤ 9223372036854775807) : F36 ((s, ()), ()) = some (trm s, ()) := by
  simp only [F36, hs, decide_true, Bool.and_self, cond_true, trimS_eq]

theorem F29_eq (c : UInt8) : F29 ((c, ()), ()) = some (bl c, ()) := by
  simp only [F29, bl]

theorem F25_eq (c : UInt8) : F25 ((c, ()), ()) = some (bl c, ()) := by
  simp only [F25, bl]

theorem L32a_eq : ∀ (s : List UInt8) (k : Nat), s.length < k → iter B32_0 k ((s, ()), ()) = some ((ltr s, ()), ())
  | _, 0, h => absurd h (Nat.not_lt_zero _)
  | [], k + 1, _ => rfl
  | a :: t, k + 1, h => by
    have c1 : decide ((0:Int) < (((a :: t).length : Nat) : Int)) = true := by rw [decide_eq_true_eq, List.length_cons]; omega
    have c2 : decide ((1:Int) ≤ (((a :: t).length : Nat) : Int)) = true := by rw [decide_eq_true_eq, List.length_cons]; omega
    have hg : (a :: t).getD 0 0 = a := rfl
    simp only [iter, B32_0, c1, Bool.true_or, cond_true, hg, F29_eq, Option.bind_some]
    by_cases hb : bl a = true
    · have ht : List.take (Int.toNat (((a :: t).length : Nat) : Int) - 1) (List.drop 1 (a :: t)) = t := by
        rw [Int.toNat_natCast]; simp
      have e : ltr (a :: t) = ltr t := by simp [ltr, hb]
      simp only [hb, cond_true, c2, Int.le_refl, decide_true, Bool.and_self, Option.bind_some, ht, e]
      exact L32a_eq t k (by simp only [List.length_cons] at h; omega)
    · have e : ltr (a :: t) = a :: t := by simp [ltr, hb]
      rw [Bool.not_eq_true] at hb
      simp only [hb, cond_false, e]

theorem L32b_eq : ∀ (k : Nat) (s : List UInt8), s.length ≤ 1100000 → s.length < k → iter B32_1 k ((s, ()), ()) = some ((rtr s, ()), ())
  | 0, _, _, h => absurd h (Nat.not_lt_zero _)
  | k + 1, s, hs, h => by
    rcases List.eq_nil_or_concat s with rfl | ⟨l, a, rfl⟩
    · rfl
    · rw [List.concat_eq_append] at *
      have hlen : (l ++ [a]).length = l.length + 1 := by simp
      have hw : w64 ((((l ++ [a]).length : Nat) : Int) - 1) = (l.length : Int) := by
        rw [hlen] at hs ⊢
        rw [w64_id (by omega) (by omega)]; omega
      have c1 : decide ((0:Int) < (((l ++ [a]).length : Nat) : Int)) = true := by rw [decide_eq_true_eq, hlen]; omega
      have c2 : l.length < (l ++ [a]).length := by omega
      have c3 : decide ((l.length : Int) ≤ (((l ++ [a]).length : Nat) : Int)) = true := by rw [decide_eq_true_eq, hlen]; omega
      have hg : (l ++ [a]).getD l.length 0 = a := by
        rw [List.getD_eq_getElem?_getD, List.getElem?_append_right (Nat.le_refl _)]; simp
      simp only [iter, B32_1, hw, c1, nat_nn, nat_lt, c2, decide_true, Bool.and_self, Bool.true_or, cond_true, Int.toNat_natCast, hg, F29_eq, Option.bind_some, rtr_snoc]
      by_cases hb : bl a = true
      · have ht : List.take l.length (l ++ [a]) = l := by simp
        simp only [hb, cond_true, c3, Bool.and_self, Option.bind_some, ht, ↓reduceIte]
        exact L32b_eq k l (by omega) (by omega)
      · have hb' := hb
        rw [Bool.not_eq_true] at hb'
        simp only [hb', cond_false, Bool.false_eq_true, ↓reduceIte]

theorem ltr_len (s : List UInt8) : (ltr s).length ≤ s.length := by
  unfold ltr
  exact (List.dropWhile_sublist _).length_le

theorem rtr_len : ∀ s : List UInt8, (rtr s).length ≤ s.length
  | [] => Nat.le_refl _
  | a :: t => by
    have := rtr_len t
    unfold rtr
    split
    · exact Nat.zero_le _
    · simp only [List.length_cons]; omega

theorem trm_len (s : List UInt8) : (trm s).length ≤ s.length := Nat.le_trans (rtr_len _) (ltr_len _)

theorem F32_eq (s : List UInt8) (hs : s.length ≤ 1100000) : F32 ((s, ()), ()) = some (trm s, ()) := by
  have h1 : L32_0 ((s, ()), ()) = some ((ltr s, ()), ()) := L32a_eq s FUEL (by unfold FUEL; omega)
  have hl := ltr_len s
  have h2 : L32_1 ((ltr s, ()), ()) = some ((rtr (ltr s), ()), ()) := L32b_eq FUEL (ltr s) (by omega) (by unfold FUEL; omega)
  simp only [F32, h1, h2, Option.bind_some, trm]

/-! atoms -/
def badL : List UInt8 := [40, 41, 123, 37, 42, 34, 92, 93]

theorem ub (a k : UInt8) : (a == k) = decide (a.toNat = k.toNat) := by
  rw [Bool.eq_iff_iff, beq_iff_eq, decide_eq_true_eq, UInt8.toNat_inj]

theorem cond_or {α β : Type} (s : α) (q : β) (A X : Bool) : cond A (some ((s, (), A, ()), q)) (some ((s, (), X, ()), q)) = some ((s, (), (A || X), ()), q) := by
  cases A <;> rfl

def gd (c : UInt8) : Bool := decide (33 ≤ c.toNat) && decide (c.toNat ≤ 126) && !(badL.contains c)

def atom (s : List UInt8) : Bool := !s.isEmpty && s.all gd

theorem L41b_eq (s : List UInt8) (i : Nat) (a : UInt8) (hi : i < s.length) (ha : s.getD i 0 = a) :
    L41_1 ((s, (i : Int), (0:Int), ()), ()) = some (if badL.contains a then .inr (((), ()), ()) else .inl ((s, (i : Int), ()), ())) := by
  have hF := FUEL_big
  have h := walk_list (f := B41_1) (fun (_ : Unit) k => ((s, (i : Int), (k : Int), ()), ())) badL (fun x _ => if x == a then .inr (.inr (((), ()), ())) else .inl ()) (fun _ => .inl ((s, (i : Int), ()), ())) (b := ())
    (fun b k x hk hx => by
      have hk8 : k < 8 := hk
      have c1 : decide ((k : Int) < 8) = true := by rw [decide_eq_true_eq]; omega
      have hx0 : List.getD ([40, 41, 123, 37, 42, 34, 92, 93]:List UInt8) k 0 = x := hx 0
      have hx125 : x ≠ 125 := by
        have : x ∈ badL := by
          rw [← hx 0, List.getD_eq_getElem?_getD, List.getElem?_eq_getElem hk]
          exact List.getElem_mem hk
        intro e
        rw [e] at this
        revert this
        decide
      simp only [B41_1, c1, nat_nn, nat_lt, hi, decide_true, Bool.and_self, Bool.true_or, cond_true, Int.toNat_natCast, ha, hx0, w64_nat (show k < 9223372036854775807 by omega)]
      by_cases he : a = x
      · subst he
        have hne : ¬ a = 125 := hx125
        simp [hne]
      · have hne : ¬ (x == a) = true := fun h => he (by simpa using (eq_of_beq h).symm)
        simp [he, hne])
    (fun b => rfl) (by show 8 < FUEL; omega)
  have h' : L41_1 ((s, (i : Int), (0:Int), ()), ()) = _ := h
  rw [h']
  have : ∀ l : List UInt8, foldS (fun x (_ : Unit) => if x == a then (.inr (.inr (((), ()), ())) : Unit ⊕ (((List UInt8 × Int × Unit) × Unit) ⊕ ((Unit × Unit) × Unit))) else .inl ()) (fun _ => .inl ((s, (i : Int), ()), ())) () l = if l.contains a then .inr (((), ()), ()) else .inl ((s, (i : Int), ()), ()) := by
    intro l
    induction l with
    | nil => rfl
    | cons x t ih =>
      simp only [foldS]
      by_cases hxa : x = a
      · subst hxa; simp
      · have h1 : ¬ (x == a) = true := fun h => hxa (eq_of_beq h)
        have h2 : ¬ (a == x) = true := fun h => hxa (eq_of_beq h).symm
        rw [if_neg h1]
        simp only
        rw [ih]
        simp only [List.contains_cons, h2, Bool.false_or]
  rw [this]

theorem foldS_all {α τ : Type} (g : α → Bool) (y : τ) (n : τ) : ∀ (s : List α), foldS (fun a (_ : Unit) => if g a = true then (.inl () : Unit ⊕ τ) else .inr n) (fun _ => y) () s = if s.all g then y else n
  | [] => rfl
  | a :: t => by
    simp only [foldS, List.all_cons]
    by_cases h : g a = true
    · simp only [h, ↓reduceIte, Bool.true_and]
      exact foldS_all g y n t
    · simp only [h, ↓reduceIte, Bool.false_and, Bool.false_eq_true]

theorem F41_eq (s : List UInt8) (hs : s.length ≤ 1100000) : F41 ((s, ()), ()) = some (atom s, ()) := by
  have hF := FUEL_big
  have h := walk_list (f := B41_0) (fun (_ : Unit) i => ((s, (i : Int), ()), ())) s (fun a _ => if gd a = true then .inl () else .inr (.inr (((), ()), ()))) (fun _ => .inl ((s, ()), ())) (b := ())
    (fun b i a hi ha => by
      have e1 := L41b_eq s i a hi (ha 0)
      simp only [B41_0, nat_nn, nat_lt, hi, decide_true, Bool.and_self, Bool.true_or, cond_true, Int.toNat_natCast, ha, show UInt8.toNat 33 = 33 from rfl, show UInt8.toNat 126 = 126 from rfl]
      unfold gd
      by_cases h1 : a.toNat < 33
      · have : ¬ 33 ≤ a.toNat := by omega
        simp only [h1, this, decide_true, decide_false, Bool.true_or, Bool.false_and, cond_true, Bool.false_eq_true, ↓reduceIte, Option.bind_some]
      · by_cases h2 : 126 < a.toNat
        · have : ¬ a.toNat ≤ 126 := by omega
          simp only [h2, this, decide_true, decide_false, Bool.or_true, Bool.and_false, Bool.false_and, cond_true, Bool.false_eq_true, ↓reduceIte, Option.bind_some]
        · have h3 : 33 ≤ a.toNat := by omega
          have h4 : a.toNat ≤ 126 := by omega
          simp only [h1, h2, h3, h4, decide_true, decide_false, Bool.or_self, Bool.true_and, cond_false]
          rw [e1]
          cases badL.contains a
          · simp only [Bool.false_eq_true, ↓reduceIte, Option.bind_some, Bool.not_false, w64_nat (show i < 9223372036854775807 by omega)]
          · simp only [↓reduceIte, Option.bind_some, Bool.not_true, Bool.false_eq_true])
    (fun b => by simp only [B41_0, Int.lt_irrefl, decide_false, cond_false]) (by omega)
  rw [foldS_all] at h
  have h' : L41_0 ((s, (0:Int), ()), ()) = _ := h
  simp only [F41, h', atom]
  cases s with
  | nil => rfl
  | cons c t =>
    have c1 : decide ((0:Int) < (((c :: t).length : Nat) : Int)) = true := by rw [decide_eq_true_eq, List.length_cons]; omega
    cases (c :: t).all gd
    · simp
    · simp only [↓reduceIte, Option.bind_some, c1, List.isEmpty_cons, Bool.not_false, Bool.and_self]

theorem dec_at {s : List UInt8} {i : Nat} (h : i < s.length) : Utf8.decode ⟨s.toArray⟩ i = Lib.decodeL (s.drop i) := by
  rw [← Lib.decodeL_drop]

theorem decodeN_big (n b0 b1 b2 b3 : Nat) (h : 128 ≤ b0) : 128 ≤ (Lib.decodeN n b0 b1 b2 b3).1 := by
  unfold Lib.decodeN
  repeat' split
  all_goals simp only
  all_goals omega

theorem dec_big {b : UInt8} {t : List UInt8} (h : 128 ≤ b.toNat) : 128 ≤ (Lib.decodeL (b :: t)).1 := by
  rw [Lib.decodeL_N]
  exact decodeN_big _ _ _ _ _ h

theorem gd_rune (b : UInt8) (v : Int) (h1 : b.toNat < 128 → v = (b.toNat : Int)) (h2 : 128 ≤ b.toNat → 128 ≤ v) :
    ((decide (v ≤ 32) || decide (126 < v)) || (decide (v = 40) || (decide (v = 41) || (decide (v = 123) || (decide (v = 37) || (decide (v = 42) || (decide (v = 34) || (decide (v = 92) || decide (v = 93))))))))) = !gd b := by
  unfold gd badL
  simp only [List.contains_cons, List.contains_nil, Bool.or_false, ub, show UInt8.toNat 40 = 40 from rfl, show UInt8.toNat 41 = 41 from rfl, show UInt8.toNat 123 = 123 from rfl, show UInt8.toNat 37 = 37 from rfl, show UInt8.toNat 42 = 42 from rfl, show UInt8.toNat 34 = 34 from rfl, show UInt8.toNat 92 = 92 from rfl, show UInt8.toNat 93 = 93 from rfl]
  rw [Bool.eq_iff_iff]
  simp only [Bool.or_eq_true, Bool.and_eq_true, Bool.not_eq_true', Bool.and_eq_false_iff, Bool.not_eq_false', decide_eq_true_eq, decide_eq_false_iff_not]
  rcases Nat.lt_or_ge b.toNat 128 with h | h
  · have := h1 h; omega
  · have := h2 h; omega

theorem L38_iter (s : List UInt8) : ∀ (k i : Nat), i ≤ s.length → s.length - i < k →
    iter B38_0 k ((s, (), ()), ((s, i), ())) = some (if (s.drop i).all gd then .inl ((s, ()), ()) else .inr (((), ()), ()))
  | 0, _, _, h => absurd h (Nat.not_lt_zero _)
  | k + 1, i, hi, hk => by
    by_cases hlt : i < s.length
    · have hd := List.drop_eq_getElem_cons hlt
      generalize hb : s[i] = b at hd
      have hg := gd_rune b ((Lib.decodeL (b :: s.drop (i + 1))).1 : Int) (fun h => by rw [Lib.decodeL_ascii b _ h]) (fun h => by
        have := dec_big (t := s.drop (i + 1)) h
        omega)
      simp only [iter, B38_0, hlt, decide_true, cond_true, dec_at hlt]
      rw [hd]
      simp only [cond_or, hg, Option.bind_some, List.all_cons]
      by_cases h : gd b = true
      case neg =>
        rw [Bool.not_eq_true] at h
        simp only [h, Bool.not_false, cond_true, Bool.false_and, Bool.false_eq_true, ↓reduceIte]
      · have h128 : b.toNat < 128 := by
          unfold gd at h
          simp only [Bool.and_eq_true, decide_eq_true_eq] at h
          omega
        have ih := L38_iter s k (i + 1) (by omega) (by omega)
        simp only [h, Bool.not_true, cond_false, Bool.true_and]
        rw [Lib.decodeL_ascii b _ h128]
        exact ih
    · obtain rfl : i = s.length := by omega
      simp only [iter, B38_0, Nat.lt_irrefl, decide_false, cond_false, List.drop_length, List.all_nil, ↓reduceIte]

theorem F38_eq (s : List UInt8) (hs : s.length ≤ 1100000) : F38 ((s, ()), ()) = some (atom s, ()) := by
  have h : L38_0 ((s, (), ()), ((s, 0), ())) = _ := L38_iter s FUEL 0 (Nat.zero_le _) (by unfold FUEL; omega)
  rw [List.drop_zero] at h
  simp only [F38, h, atom]
  cases s with
  | nil => rfl
  | cons c t =>
    cases (c :: t).all gd
    · simp
    · simp

end Go.Hd

namespace Go.Hd
open Go Go.Ev
set_option maxRecDepth 100000

def has (l : List UInt8) (c : UInt8) : Bool := l.any fun b => b == c

/-- where a byte is first -/
def fst (c : UInt8) : List UInt8 → Option Nat
  | [] => none
  | b :: t => if b = c then some 0 else (fst c t).map (· + 1)

theorem indexByte_fst (c : UInt8) : ∀ l : List UInt8, Go.Lib.indexByte l c = match fst c l with | none => -1 | some k => (k : Int)
  | [] => rfl
  | b :: t => by
    have ih := indexByte_fst c t
    unfold Go.Lib.indexByte fst
    by_cases h : b = c
    · subst h
      simp
    · have h1 : ¬ (b == c) = true := fun e => h (eq_of_beq e)
      rw [if_neg h1, if_neg h, ih]
      cases fst c t with
      | none => rfl
      | some k =>
        have : ¬ (((k : Int)) == -1) = true := by
          intro e
          have := eq_of_beq e
          omega
        simp only [this, Option.map_some]
        rfl

theorem fst_has (c : UInt8) : ∀ l : List UInt8, has l c = (fst c l).isSome
  | [] => rfl
  | b :: t => by
    have ih := fst_has c t
    unfold has at *
    unfold fst
    rw [List.any_cons]
    by_cases h : b = c
    · subst h; simp
    · have h1 : (b == c) = false := by simpa using h
      rw [h1, if_neg h, Bool.false_or, ih, Option.isSome_map]

theorem fst_lt (c : UInt8) : ∀ (l : List UInt8) (k : Nat), fst c l = some k → k < l.length
  | [], _, h => by cases h
  | b :: t, k, h => by
    unfold fst at h
    by_cases hb : b = c
    · rw [if_pos hb] at h
      injection h with h
      subst h
      simp
    · rw [if_neg hb] at h
      cases hf : fst c t with
      | none => rw [hf] at h; cases h
      | some j =>
        rw [hf] at h
        simp only [Option.map_some, Option.some.injEq] at h
        have := fst_lt c t j hf
        simp only [List.length_cons]
        omega

theorem indexAny_any (cs : List UInt8) : ∀ l : List UInt8, decide (0 ≤ Go.Lib.indexAny l cs) = l.any (fun b => cs.contains b)
  | [] => rfl
  | b :: t => by
    have ih := indexAny_any cs t
    have hge := Go.Lib.indexAny_ge cs t
    unfold Go.Lib.indexAny
    rw [List.any_cons, ← ih]
    by_cases h : cs.contains b = true
    · rw [if_pos h, h]; rfl
    · rw [if_neg h]
      rw [Bool.not_eq_true] at h
      rw [h, Bool.false_or]
      by_cases h2 : Go.Lib.indexAny t cs = -1
      · rw [h2]; rfl
      · have h3 : ¬ (Go.Lib.indexAny t cs == -1) = true := fun e => h2 (eq_of_beq e)
        rw [if_neg h3, decide_eq_decide]
        omega

def ang (b : UInt8) : Bool := decide (b = 60) || decide (b = 62)

theorem containsAny_eq (l : List UInt8) : Go.Lib.containsAny l [60, 62] = l.any ang := by
  unfold Go.Lib.containsAny
  rw [indexAny_any]
  congr 1
  funext b
  by_cases h1 : b = 60
  · subst h1; rfl
  · by_cases h2 : b = 62
    · subst h2; rfl
    · simp [ang, h1, h2]

theorem contains_one (l : List UInt8) : Go.Lib.contains l [64] = has l 64 := by
  unfold Go.Lib.contains
  rw [Go.Lib.index_one, indexByte_fst, fst_has]
  cases fst 64 l with
  | none => rfl
  | some k => simp

/-- is what stands between the signs a name? -/
def okI (u : List UInt8) : Bool :=
  match fst 64 u with
  | none => false
  | some k => atom (u.take k) && atom (u.drop (k + 1)) && !(u.any ang) && !(has (u.drop (k + 1)) 64)

def identIn (u : List UInt8) : List UInt8 × Bool × Unit := cond (okI u) (u, true, ()) ([], false, ())

def ident (s : List UInt8) : List UInt8 × Bool × Unit :=
  if (trm s).length < 2 ∨ (trm s).getD 0 0 ≠ 60 ∨ (trm s).getD ((trm s).length - 1) 0 ≠ 62 then ([], false, ()) else identIn (((trm s).drop 1).take ((trm s).length - 2))

theorem gd_ascii {b : UInt8} (h : gd b = true) : b.toNat < 128 := by
  unfold gd at h
  simp only [Bool.and_eq_true, decide_eq_true_eq] at h
  omega

theorem atom_ascii {s : List UInt8} (h : atom s = true) : ascii s = true := by
  unfold atom at h
  rw [Bool.and_eq_true] at h
  exact List.all_eq_true.mpr fun b hb => decide_eq_true (gd_ascii (List.all_eq_true.mp h.2 b hb))

theorem split_at (c : UInt8) : ∀ (u : List UInt8) (k : Nat), fst c u = some k → u = u.take k ++ c :: u.drop (k + 1)
  | [], _, h => by cases h
  | b :: t, k, h => by
    unfold fst at h
    by_cases hb : b = c
    · rw [if_pos hb] at h
      injection h with h
      subst h
      subst hb
      rfl
    · rw [if_neg hb] at h
      cases hf : fst c t with
      | none => rw [hf] at h; cases h
      | some j =>
        rw [hf] at h
        simp only [Option.map_some, Option.some.injEq] at h
        subst h
        have ih := split_at c t j hf
        rw [List.take_succ_cons, List.drop_succ_cons, List.cons_append, ← ih]

theorem cut_eq (u : List UInt8) : Go.Lib.cut u [64] = match fst 64 u with
    | none => (u, [], false)
    | some k => (u.take k, u.drop (k + 1), true) := by
  unfold Go.Lib.cut
  rw [Go.Lib.index_one, indexByte_fst]
  cases fst 64 u with
  | none => rfl
  | some k =>
    have : (0:Int) ≤ (k : Int) := by omega
    simp only [this, ↓reduceIte, Int.toNat_natCast]
    rfl

theorem edges {t : List UInt8} (ht : t.length ≤ 1100000) (h2 : 2 ≤ t.length) : w64 (((t.length : Nat) : Int) - 1) = ((t.length - 1 : Nat) : Int) := by
  rw [w64_id (by omega) (by omega)]; omega

theorem F17_eq (s : List UInt8) (hs : s.length ≤ 1100000) : F17 ((s, ()), ()) = some (ident s, ()) := by
  have hl := trm_len s
  have e36 := F36_eq s (by omega)
  unfold ident
  simp only [F17, e36, Option.bind_some]
  generalize trm s = t at *
  have c0 : (decide ((0:Int) < ((t.length : Nat) : Int)) || decide (((t.length : Nat) : Int) < 2)) = true := by
    rw [Bool.or_eq_true, decide_eq_true_eq, decide_eq_true_eq]; omega
  rw [c0]
  simp only [cond_true]
  by_cases h1 : t.length < 2
  · have d1 : decide (((t.length : Nat) : Int) < 2) = true := by rw [decide_eq_true_eq]; omega
    simp only [d1, h1, Bool.true_or, Bool.or_true, cond_true, true_or, ↓reduceIte]
  · have d1 : decide (((t.length : Nat) : Int) < 2) = false := by rw [decide_eq_false_iff_not]; omega
    have hw := edges (t := t) (by omega) (by omega)
    have hlt : t.length - 1 < t.length := by omega
    simp only [d1, hw, nat_nn, nat_lt, hlt, decide_true, Bool.and_self, Bool.true_or, Bool.false_or, cond_true, Int.toNat_natCast]
    by_cases h2 : t.getD 0 0 = 60
    · by_cases h3 : t.getD (t.length - 1) 0 = 62
      · have d4 : decide ((1:Int) ≤ ((t.length - 1 : Nat) : Int)) = true := by rw [decide_eq_true_eq]; omega
        have d5 : decide (((t.length - 1 : Nat) : Int) ≤ ((t.length : Nat) : Int)) = true := by rw [decide_eq_true_eq]; omega
        have hc : ¬ (t.length < 2 ∨ t.getD 0 0 ≠ 60 ∨ t.getD (t.length - 1) 0 ≠ 62) := by
          rintro (h | h | h)
          · exact h1 h
          · exact h h2
          · exact h h3
        rw [if_neg hc]
        have hu : List.take (t.length - 1 - 1) (List.drop 1 t) = List.take (t.length - 2) (List.drop 1 t) := by
          rw [show t.length - 1 - 1 = t.length - 2 by omega]
        simp only [h2, h3, d4, d5, decide_true, Bool.not_true, Bool.or_self, cond_false, cond_true, Bool.and_self, Option.bind_some, hu]
        have hul : (List.take (t.length - 2) (List.drop 1 t)).length ≤ 1100000 := by
          rw [List.length_take, List.length_drop]; omega
        generalize List.take (t.length - 2) (List.drop 1 t) = u at *
        have d6 : decide (u.length < 4294967281) = true := by rw [decide_eq_true_eq]; omega
        simp only [d6, cond_true, Option.bind_some, cut_eq]
        unfold identIn okI
        cases hf : fst 64 u with
        | none => simp
        | some k =>
          have hk := fst_lt 64 u k hf
          have e1 := F38_eq (u.take k) (by rw [List.length_take]; omega)
          have e2 := F38_eq (u.drop (k + 1)) (by rw [List.length_drop]; omega)
          simp only [Bool.not_true, Bool.not_false, cond_true, e1, Option.bind_some]
          cases ha : atom (u.take k)
          · simp
          · simp only [Bool.not_true, Bool.not_false, cond_true, e2, Option.bind_some]
            cases hb : atom (u.drop (k + 1))
            · simp
            · have hasc : ascii u = true := by
                rw [split_at 64 u k hf]
                unfold ascii
                rw [List.all_append, List.all_cons]
                have h1 := atom_ascii ha
                have h2 := atom_ascii hb
                unfold ascii at h1 h2
                rw [h1, h2]
                rfl
              have d7 : decide ((u.drop (k + 1)).length < 4294967281) = true := by rw [decide_eq_true_eq, List.length_drop]; omega
              simp only [Bool.not_true, Bool.not_false, cond_true, hasc, Bool.and_self, containsAny_eq, contains_one, Option.bind_some, d7]
              cases u.any ang
              · cases has (u.drop (k + 1)) 64 <;> simp
              · simp
      · have hc : t.length < 2 ∨ t.getD 0 0 ≠ 60 ∨ t.getD (t.length - 1) 0 ≠ 62 := .inr (.inr h3)
        rw [if_pos hc]
        simp only [h2, h3, decide_true, decide_false, Bool.not_true, Bool.not_false, Bool.or_true, cond_true]
    · have hc : t.length < 2 ∨ t.getD 0 0 ≠ 60 ∨ t.getD (t.length - 1) 0 ≠ 62 := .inr (.inl h2)
      rw [if_pos hc]
      simp only [h2, decide_false, Bool.not_false, Bool.true_or, cond_true]

abbrev R18 : Type := ((List UInt8 × Int × Unit) × Unit) ⊕ ((Unit × Unit × Unit) × Unit)

def stp18 (a : UInt8) (b : Int × Nat) : (Int × Nat) ⊕ R18 :=
  if ang a || (decide (a = 64) && decide (0 ≤ b.1)) then .inr (.inr (((), (), ()), ())) else if a = 64 then .inl ((b.2 : Int), b.2 + 1) else .inl (b.1, b.2 + 1)

theorem fold18 (u : List UInt8) : ∀ (l : List UInt8) (b : Int × Nat), 0 ≤ b.1 → foldS stp18 (fun b => (.inl ((u, b.1, ()), ()) : R18)) b l = cond (l.any ang || has l 64) (.inr (((), (), ()), ())) (.inl ((u, b.1, ()), ()))
  | [], b, _ => by simp [foldS, has]
  | a :: t, b, h => by
    simp only [foldS, stp18, List.any_cons, has]
    have hd : decide (0 ≤ b.1) = true := decide_eq_true h
    have hu : (a == 64) = decide (a = 64) := by
      by_cases e : a = 64
      · subst e; rfl
      · have : (a == 64) = false := by simpa using e
        rw [this, decide_eq_false e]
    rw [hd, Bool.and_true, hu]
    by_cases h1 : ang a = true
    · simp [h1]
    · rw [Bool.not_eq_true] at h1
      by_cases h2 : a = 64
      · simp [h1, h2]
      · simp only [h1, h2, decide_false, Bool.or_self, Bool.false_eq_true, ↓reduceIte, Bool.false_or]
        have := fold18 u t (b.1, b.2 + 1) h
        unfold has at this
        exact this

theorem fold18' (u : List UInt8) : ∀ (l : List UInt8) (k : Nat), foldS stp18 (fun b => (.inl ((u, b.1, ()), ()) : R18)) (-1, k) l = cond (l.any ang) (.inr (((), (), ()), ())) (match fst 64 l with
    | none => .inl ((u, -1, ()), ())
    | some j => cond (has (l.drop (j + 1)) 64) (.inr (((), (), ()), ())) (.inl ((u, ((k + j : Nat) : Int), ()), ())))
  | [], k => rfl
  | a :: t, k => by
    simp only [foldS, stp18, List.any_cons]
    have hd : decide ((0:Int) ≤ -1) = false := rfl
    rw [hd, Bool.and_false, Bool.or_false]
    unfold fst
    by_cases h1 : ang a = true
    · simp [h1]
    · rw [Bool.not_eq_true] at h1
      by_cases h2 : a = 64
      · have := fold18 u t ((k : Int), k + 1) (by simp only; omega)
        rw [h1]
        simp only [h2, show ang 64 = false from rfl, Bool.false_eq_true, ↓reduceIte, Bool.false_or, List.drop_succ_cons, List.drop_zero, Nat.add_zero]
        rw [this]
        cases t.any ang <;> cases has t 64 <;> simp
      · have ih := fold18' u t (k + 1)
        simp only [h1, h2, Bool.false_eq_true, ↓reduceIte, Bool.false_or]
        rw [ih]
        cases fst 64 t with
        | none => rfl
        | some j =>
          simp only [Option.map_some, List.drop_succ_cons]
          rw [show k + 1 + j = k + (j + 1) by omega]

theorem L18_eq (u : List UInt8) (hu : u.length ≤ 1100000) : L18_0 ((u, (-1:Int), (0:Int), ()), ()) = some (foldS stp18 (fun b => (.inl ((u, b.1, ()), ()) : R18)) (-1, 0) u) := by
  have hF := FUEL_big
  refine walk_listI (f := B18_0) (fun (b : Int × Nat) i => ((u, b.1, (i : Int), ()), ())) u stp18 _ (fun b i => b.2 = i) (b := (-1, 0))
    (fun b i a hI hi ha => ?_) (fun b _ => ?_) (by omega) rfl
  · obtain ⟨at', k⟩ := b
    simp only at hI
    subst hI
    simp only [B18_0, nat_lt, nat_nn, hi, decide_true, Bool.and_self, Bool.true_or, cond_true, Int.toNat_natCast, ha]
    unfold stp18
    change (∃ c, (if (ang a || (decide (a = 64) && decide (0 ≤ at'))) = true then _ else _) = _ ∧ _ ∧ Option.bind (cond (ang a || (decide (a = 64) && decide (0 ≤ at'))) _ _) _ = _) ∨ (∃ r, (if (ang a || (decide (a = 64) && decide (0 ≤ at'))) = true then _ else _) = _ ∧ Option.bind (cond (ang a || (decide (a = 64) && decide (0 ≤ at'))) _ _) _ = _)
    cases (ang a || (decide (a = 64) && decide (0 ≤ at')))
    · left
      by_cases h : a = 64
      · refine ⟨((k : Int), k + 1), by simp [h], rfl, ?_⟩
        simp only [h, decide_true, cond_false, cond_true, Option.bind_some, w64_nat (show k < 9223372036854775807 by omega)]
      · refine ⟨(at', k + 1), by simp [h], rfl, ?_⟩
        simp only [h, decide_false, cond_false, Option.bind_some, w64_nat (show k < 9223372036854775807 by omega)]
    · exact .inr ⟨_, rfl, rfl⟩
  · simp only [B18_0, Int.lt_irrefl, decide_false, cond_false]

theorem F18_eq (s : List UInt8) (hs : s.length ≤ 1100000) : F18 ((s, ()), ()) = some (ident s, ()) := by
  have hl := trm_len s
  have e32 := F32_eq s hs
  unfold ident
  simp only [F18, e32, Option.bind_some]
  generalize trm s = t at *
  have c0 : (decide ((0:Int) < ((t.length : Nat) : Int)) || decide (((t.length : Nat) : Int) < 2)) = true := by
    rw [Bool.or_eq_true, decide_eq_true_eq, decide_eq_true_eq]; omega
  rw [c0]
  simp only [cond_true]
  by_cases h1 : t.length < 2
  · have d1 : decide (((t.length : Nat) : Int) < 2) = true := by rw [decide_eq_true_eq]; omega
    simp only [d1, h1, Bool.true_or, Bool.or_true, cond_true, true_or, ↓reduceIte]
  · have d1 : decide (((t.length : Nat) : Int) < 2) = false := by rw [decide_eq_false_iff_not]; omega
    have hw := edges (t := t) (by omega) (by omega)
    have hlt : t.length - 1 < t.length := by omega
    simp only [d1, hw, nat_nn, nat_lt, hlt, decide_true, Bool.and_self, Bool.true_or, Bool.false_or, cond_true, Int.toNat_natCast]
    by_cases h2 : t.getD 0 0 = 60
    · by_cases h3 : t.getD (t.length - 1) 0 = 62
      · have d4 : decide ((1:Int) ≤ ((t.length - 1 : Nat) : Int)) = true := by rw [decide_eq_true_eq]; omega
        have d5 : decide (((t.length - 1 : Nat) : Int) ≤ ((t.length : Nat) : Int)) = true := by rw [decide_eq_true_eq]; omega
        have hc : ¬ (t.length < 2 ∨ t.getD 0 0 ≠ 60 ∨ t.getD (t.length - 1) 0 ≠ 62) := by
          rintro (h | h | h)
          · exact h1 h
          · exact h h2
          · exact h h3
        rw [if_neg hc]
        have hu : List.take (t.length - 1 - 1) (List.drop 1 t) = List.take (t.length - 2) (List.drop 1 t) := by
          rw [show t.length - 1 - 1 = t.length - 2 by omega]
        simp only [h2, h3, d4, d5, decide_true, Bool.not_true, Bool.or_self, cond_false, cond_true, Bool.and_self, Option.bind_some, hu]
        have hul : (List.take (t.length - 2) (List.drop 1 t)).length ≤ 1100000 := by
          rw [List.length_take, List.length_drop]; omega
        generalize List.take (t.length - 2) (List.drop 1 t) = u at *
        have e18 := L18_eq u hul
        rw [fold18'] at e18
        rw [e18]
        unfold identIn okI
        by_cases hg : u.any ang = true
        · rw [hg]
          cases fst 64 u <;> simp
        · rw [Bool.not_eq_true] at hg
          rw [hg]
          simp only [cond_false]
          cases hf : fst 64 u with
          | none =>
            simp only [Option.bind_some]
            rfl
          | some k =>
            simp only
            have hk := fst_lt 64 u k hf
            by_cases hh : has (u.drop (k + 1)) 64 = true
            · rw [hh]
              simp
            · rw [Bool.not_eq_true] at hh
              rw [hh]
              simp only [cond_false]
              have e1 := F41_eq (u.take k) (by rw [List.length_take]; omega)
              have e2 := F41_eq (u.drop (k + 1)) (by rw [List.length_drop]; omega)
              have d6 : decide ((((0 + k : Nat)) : Int) ≤ ((u.length : Nat) : Int)) = true := by rw [decide_eq_true_eq]; omega
              have d7 : decide ((((0 + k : Nat)) : Int) < 0) = false := by rw [decide_eq_false_iff_not]; omega
              have d8 : decide (((k + 1 : Nat) : Int) ≤ ((u.length : Nat) : Int)) = true := by rw [decide_eq_true_eq]; omega
              have hw2 : w64 ((((0 + k : Nat)) : Int) + 1) = ((k + 1 : Nat) : Int) := by rw [Nat.zero_add]; exact w64_nat (by omega)
              have ht : List.take (u.length - (k + 1)) (List.drop (k + 1) u) = List.drop (k + 1) u := List.take_of_length_le (by rw [List.length_drop]; omega)
              simp only [Option.bind_some, nat_nn, d6, d7, d8, hw2, Bool.and_self, Bool.true_or, Bool.not_false, cond_true, Int.toNat_natCast, Int.le_refl, decide_true, ht]
              simp only [Nat.zero_add, e1, Option.bind_some, Bool.true_or, cond_true]
              cases ha : atom (u.take k)
              · simp
              · simp only [Bool.not_true, Bool.not_false, cond_true, e2, Option.bind_some]
                cases hb : atom (u.drop (k + 1)) <;> simp
      · have hc : t.length < 2 ∨ t.getD 0 0 ≠ 60 ∨ t.getD (t.length - 1) 0 ≠ 62 := .inr (.inr h3)
        rw [if_pos hc]
        simp only [h2, h3, decide_true, decide_false, Bool.not_true, Bool.not_false, Bool.or_true, cond_true]
    · have hc : t.length < 2 ∨ t.getD 0 0 ≠ 60 ∨ t.getD (t.length - 1) 0 ≠ 62 := .inr (.inl h2)
      rw [if_pos hc]
      simp only [h2, decide_false, Bool.not_false, Bool.true_or, cond_true]

theorem law6 (s : List UInt8) (hs : s.length ≤ 1100000) : F6 ((s, ()), ()) = some (true, ()) := by
  have e17 := F17_eq s hs
  have e18 := F18_eq s hs
  generalize ident s = r at *
  obtain ⟨a, b, u⟩ := r
  cases u
  simp only [F6, F6a, e17, e18, live12, Option.bind_some, decide_true, BEq.rfl, Bool.and_self]

end Go.Hd
