/- Texts without blanks at their ends; names; where a byte is first. -/
import Derived.Test.YtppghnjcgliekaaDoorHoL
import Derived.Lib.TrimUEq
import Derived.Lib.MapLaws
import Derived.Lib.TrimAscii
namespace Go.Hd
open Go Go.Ev
set_option maxRecDepth 100000
def bl (c : UInt8) : Bool := decide (c = 32) || decide (c = 9)

theorem bl_contains (c : UInt8) : ([32, 9] : List UInt8).contains c = bl c := by
  by_cases h1 : c = 32
  · subst h1; rfl
  · by_cases h2 : c = 9
    · subst h2; rfl
    · simp [bl, h1, h2]

/-- without blanks at the end -/
def rtr : List UInt8 → List UInt8
  | [] => []
  | a :: t => if rtr t = [] ∧ bl a = true then [] else a :: rtr t

theorem rtr_snoc : ∀ (l : List UInt8) (a : UInt8), rtr (l ++ [a]) = if bl a = true then rtr l else l ++ [a]
  | [], a => by
    by_cases h : bl a = true <;> simp [rtr, h]
  | b :: l, a => by
    simp only [List.cons_append, rtr, rtr_snoc l a]
    by_cases h : bl a = true
    · simp [h]
    · simp [h]

theorem rtr_eq (l : List UInt8) : Go.Lib.trimRightS l [32, 9] = rtr l := by
  unfold Go.Lib.trimRightS
  have : ∀ r : List UInt8, (r.dropWhile (fun x => ([32, 9] : List UInt8).contains x)).reverse = rtr r.reverse := by
    intro r
    induction r with
    | nil => rfl
    | cons a t ih =>
      rw [List.reverse_cons, rtr_snoc, List.dropWhile_cons]
      simp only [bl_contains] at *
      by_cases h : bl a = true
      · rw [if_pos h, if_pos h]; exact ih
      · rw [if_neg h, if_neg h]; simp
  have := this l.reverse
  rw [List.reverse_reverse] at this
  exact this

def ltr (l : List UInt8) : List UInt8 := l.dropWhile bl

theorem ltr_eq (l : List UInt8) : Go.Lib.trimLeftS l [32, 9] = ltr l := by
  unfold Go.Lib.trimLeftS ltr
  congr 1
  funext x
  exact bl_contains x

theorem trims_swap : ∀ l : List UInt8, ltr (rtr l) = rtr (ltr l)
  | [] => rfl
  | a :: t => by
    have ih := trims_swap t
    by_cases h : bl a = true
    · have e : ltr (a :: t) = ltr t := by simp [ltr, h]
      rw [e]
      by_cases h0 : rtr t = []
      · rw [← ih, h0]
        simp [rtr, h0, h]
      · have : rtr (a :: t) = a :: rtr t := by simp [rtr, h0]
        rw [this, ← ih]
        simp [ltr, h]
    · have e : ltr (a :: t) = a :: t := by simp [ltr, h]
      have : rtr (a :: t) = a :: rtr t := by simp [rtr, h]
      rw [e, this]
      simp [ltr, h]

def trm (l : List UInt8) : List UInt8 := rtr (ltr l)

theorem trimS_eq (l : List UInt8) : Go.Lib.trimS l [32, 9] = trm l := by
  unfold Go.Lib.trimS
  rw [rtr_eq, ltr_eq, trims_swap]
  rfl

theorem F36_eq (s : List UInt8) (hs : s.length ≤ 9223372036854775807) : F36 ((s, ()), ()) = some (trm s, ()) := by
  simp only [F36, hs, decide_true, Bool.and_self, cond_true, trimS_eq]

theorem F29_eq (c : UInt8) : F29 ((c, ()), ()) = some (bl c, ()) := by
  simp only [F29, bl]

theorem F25_eq (c : UInt8) : F25 ((c, ()), ()) = some (bl c, ()) := by
  simp only [F25, bl]

theorem L32a_eq : ∀ (s : List UInt8) (k : Nat), s.length < k → iter B32_0 k ((s, ()), ()) = some ((ltr s, ()), ())
  | _, 0, h => absurd h (Nat.not_lt_zero _)
  | [], k + 1, _ => rfl
  | a :: t, k + 1, h => by
    have c1 : decide ((0:Int) < (((a :: t).length : Nat) : Int)) = true := by rw [decide_eq_true_eq, List.length_cons]; omega
    have c2 : decide ((1:Int) ≤ (((a :: t).length : Nat) : Int)) = true := by rw [decide_eq_true_eq, List.length_cons]; omega
    have hg : (a :: t).getD 0 0 = a := rfl
    simp only [iter, B32_0, c1, Bool.true_or, cond_true, hg, F29_eq, Option.bind_some]
    by_cases hb : bl a = true
    · have ht : List.take (Int.toNat (((a :: t).length : Nat) : Int) - 1) (List.drop 1 (a :: t)) = t := by
        rw [Int.toNat_natCast]; simp
      have e : ltr (a :: t) = ltr t := by simp [ltr, hb]
      simp only [hb, cond_true, c2, Int.le_refl, decide_true, Bool.and_self, Option.bind_some, ht, e]
      exact L32a_eq t k (by simp only [List.length_cons] at h; omega)
    · have e : ltr (a :: t) = a :: t := by simp [ltr, hb]
      rw [Bool.not_eq_true] at hb
      simp only [hb, cond_false, e]

theorem L32b_eq : ∀ (k : Nat) (s : List UInt8), s.length ≤ 1100000 → s.length < k → iter B32_1 k ((s, ()), ()) = some ((rtr s, ()), ())
  | 0, _, _, h => absurd h (Nat.not_lt_zero _)
  | k + 1, s, hs, h => by
    rcases List.eq_nil_or_concat s with rfl | ⟨l, a, rfl⟩
    · rfl
    · rw [List.concat_eq_append] at *
      have hlen : (l ++ [a]).length = l.length + 1 := by simp
      have hw : w64 ((((l ++ [a]).length : Nat) : Int) - 1) = (l.length : Int) := by
        rw [hlen] at hs ⊢
        rw [w64_id (by omega) (by omega)]; omega
      have c1 : decide ((0:Int) < (((l ++ [a]).length : Nat) : Int)) = true := by rw [decide_eq_true_eq, hlen]; omega
      have c2 : l.length < (l ++ [a]).length := by omega
      have c3 : decide ((l.length : Int) ≤ (((l ++ [a]).length : Nat) : Int)) = true := by rw [decide_eq_true_eq, hlen]; omega
      have hg : (l ++ [a]).getD l.length 0 = a := by
        rw [List.getD_eq_getElem?_getD, List.getElem?_append_right (Nat.le_refl _)]; simp
      simp only [iter, B32_1, hw, c1, nat_nn, nat_lt, c2, decide_true, Bool.and_self, Bool.true_or, cond_true, Int.toNat_natCast, hg, F29_eq, Option.bind_some, rtr_snoc]
      by_cases hb : bl a = true
      · have ht : List.take l.length (l ++ [a]) = l := by simp
        simp only [hb, cond_true, c3, Bool.and_self, Option.bind_some, ht, ↓reduceIte]
        exact L32b_eq k l (by omega) (by omega)
      · have hb' := hb
        rw [Bool.not_eq_true] at hb'
        simp only [hb', cond_false, Bool.false_eq_true, ↓reduceIte]

theorem ltr_len (s : List UInt8) : (ltr s).length ≤ s.length := by
  unfold ltr
  exact (List.dropWhile_sublist _).length_le

theorem rtr_len : ∀ s : List UInt8, (rtr s).length ≤ s.length
  | [] => Nat.le_refl _
  | a :: t => by
    have := rtr_len t
    unfold rtr
    split
    · exact Nat.zero_le _
    · simp only [List.length_cons]; omega

theorem trm_len (s : List UInt8) : (trm s).length ≤ s.length := Nat.le_trans (rtr_len _) (ltr_len _)

theorem F32_eq (s : List UInt8) (hs : s.length ≤ 1100000) : F32 ((s, ()), ()) = some (trm s, ()) := by
  have h1 : L32_0 ((s, ()), ()) = some ((ltr s, ()), ()) := L32a_eq s FUEL (by unfold FUEL; omega)
  have hl := ltr_len s
  have h2 : L32_1 ((ltr s, ()), ()) = some ((rtr (ltr s), ()), ()) := L32b_eq FUEL (ltr s) (by omega) (by unfold FUEL; omega)
  simp only [F32, h1, h2, Option.bind_some, trm]

theorem foldS_all {α τ : Type} (g : α → Bool) (y : τ) (n : τ) : ∀ (s : List α), foldS (fun a (_ : Unit) => if g a = true then (.inl () : Unit ⊕ τ) else .inr n) (fun _ => y) () s = if s.all g then y else n
  | [] => rfl
  | a :: t => by
    simp only [foldS, List.all_cons]
    by_cases h : g a = true
    · simp only [h, ↓reduceIte, Bool.true_and]
      exact foldS_all g y n t
    · simp only [h, ↓reduceIte, Bool.false_and, Bool.false_eq_true]

def has (l : List UInt8) (c : UInt8) : Bool := l.any fun b => b == c

/-- where a byte is first -/
def fst (c : UInt8) : List UInt8 → Option Nat
  | [] => none
  | b :: t => if b = c then some 0 else (fst c t).map (· + 1)

theorem indexByte_fst (c : UInt8) : ∀ l : List UInt8, Go.Lib.indexByte l c = match fst c l with | none => -1 | some k => (k : Int)
  | [] => rfl
  | b :: t => by
    have ih := indexByte_fst c t
    unfold Go.Lib.indexByte fst
    by_cases h : b = c
    · subst h
      simp
    · have h1 : ¬ (b == c) = true := fun e => h (eq_of_beq e)
      rw [if_neg h1, if_neg h, ih]
      cases fst c t with
      | none => rfl
      | some k =>
        have : ¬ (((k : Int)) == -1) = true := by
          intro e
          have := eq_of_beq e
          omega
        simp only [this, Option.map_some]
        rfl

theorem fst_has (c : UInt8) : ∀ l : List UInt8, has l c = (fst c l).isSome
  | [] => rfl
  | b :: t => by
    have ih := fst_has c t
    unfold has at *
    unfold fst
    rw [List.any_cons]
    by_cases h : b = c
    · subst h; simp
    · have h1 : (b == c) = false := by simpa using h
      rw [h1, if_neg h, Bool.false_or, ih, Option.isSome_map]

theorem fst_lt (c : UInt8) : ∀ (l : List UInt8) (k : Nat), fst c l = some k → k < l.length
  | [], _, h => by cases h
  | b :: t, k, h => by
    unfold fst at h
    by_cases hb : b = c
    · rw [if_pos hb] at h
      injection h with h
      subst h
      simp
    · rw [if_neg hb] at h
      cases hf : fst c t with
      | none => rw [hf] at h; cases h
      | some j =>
        rw [hf] at h
        simp only [Option.map_some, Option.some.injEq] at h
        have := fst_lt c t j hf
        simp only [List.length_cons]
        omega

def nmc (c : UInt8) : Bool := !((decide (c.toNat < 33) || decide (126 < c.toNat)) || decide (c = 58))

def rn (s : List UInt8) : Bool := s.all nmc && (decide (1 ≤ s.length) && decide (s.length ≤ 24))

theorem F31_eq (s : List UInt8) (hs : s.length ≤ 9223372036854775807) : F31 ((s, ()), ()) = some (rn s, ()) := by
  have hF : (9223372036854775807 : Nat) < FUEL := by unfold FUEL; omega
  have h := walk_list (f := B31_0) (fun (_ : Unit) i => ((s, (i : Int), ()), ())) s (fun a _ => if nmc a = true then .inl () else .inr (.inr (((), ()), ()))) (fun _ => .inl ((s, ()), ())) (b := ())
    (fun b i a hi ha => by
      simp only [B31_0, nat_nn, nat_lt, hi, decide_true, Bool.and_self, Bool.true_or, cond_true, Int.toNat_natCast, ha, show UInt8.toNat 33 = 33 from rfl, show UInt8.toNat 126 = 126 from rfl]
      unfold nmc
      cases ((decide (a.toNat < 33) || decide (126 < a.toNat)) || decide (a = 58))
      · simp only [cond_false, Bool.not_false, ↓reduceIte, w64_nat (show i < 9223372036854775807 by omega)]
      · simp only [cond_true, Bool.not_true, Bool.false_eq_true, ↓reduceIte])
    (fun b => by simp only [B31_0, Int.lt_irrefl, decide_false, cond_false]) (by omega)
  rw [foldS_all] at h
  have h' : L31_0 ((s, (0:Int), ()), ()) = _ := h
  simp only [F31, h', rn]
  cases s.all nmc
  · simp only [Bool.false_eq_true, ↓reduceIte, Option.bind_some, Bool.false_and]
  · have e1 : decide ((1:Int) ≤ ((s.length : Nat) : Int)) = decide (1 ≤ s.length) := by rw [decide_eq_decide]; omega
    have e2 : decide (((s.length : Nat) : Int) ≤ 24) = decide (s.length ≤ 24) := by rw [decide_eq_decide]; omega
    simp only [↓reduceIte, Option.bind_some, Bool.true_and, e1, e2]

theorem F27_eq (s : List UInt8) (hs : s.length ≤ 9223372036854775807) : F27 ((s, ()), ()) = some (rn s, ()) := by
  have hF : (9223372036854775807 : Nat) < FUEL := by unfold FUEL; omega
  have h := walk_list (f := B27_0) (fun (_ : Unit) i => ((s, (s.length : Int), (i : Int), ()), ())) s (fun a _ => if nmc a = true then .inl () else .inr (.inr (((), ()), ()))) (fun _ => .inl ((s, ()), ())) (b := ())
    (fun b i a hi ha => by
      simp only [B27_0, nat_nn, nat_lt, hi, decide_true, Bool.and_self, Bool.true_or, cond_true, Int.toNat_natCast, ha, show UInt8.toNat 33 = 33 from rfl, show UInt8.toNat 126 = 126 from rfl]
      unfold nmc
      cases ((decide (a.toNat < 33) || decide (126 < a.toNat)) || decide (a = 58))
      · simp only [cond_false, Bool.not_false, ↓reduceIte, w64_nat (show i < 9223372036854775807 by omega)]
      · simp only [cond_true, Bool.not_true, Bool.false_eq_true, ↓reduceIte])
    (fun b => by simp only [B27_0, Int.lt_irrefl, decide_false, cond_false]) (by omega)
  rw [foldS_all] at h
  have h' : L27_0 ((s, (s.length : Int), (0:Int), ()), ()) = _ := h
  simp only [F27, h', rn]
  cases s.all nmc
  · simp only [Bool.false_eq_true, ↓reduceIte, Option.bind_some, Bool.false_and]
  · have e2 : decide (((s.length : Nat) : Int) ≤ 24) = decide (s.length ≤ 24) := by rw [decide_eq_decide]; omega
    have e1 : (!decide (s = [])) = decide (1 ≤ s.length) := by cases s <;> simp
    simp only [↓reduceIte, Option.bind_some, Bool.true_and, e1, e2]

end Go.Hd
