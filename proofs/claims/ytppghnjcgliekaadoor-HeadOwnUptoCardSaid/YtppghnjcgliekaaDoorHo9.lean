/- The law HeadSplits. -/
import Derived.Test.YtppghnjcgliekaaDoorHo8
import Derived.Test.YtppghnjcgliekaaDoorEvWb
namespace Go.Hd
open Go Go.Ev
set_option maxRecDepth 100000

def nof : Fld := ([], ([], ((0:Int), ())))

/-- a line more for the last field -/
def addl (out : List Fld) (l : List UInt8) : List Fld :=
  out.set (out.length - 1) ((out.getD (out.length - 1) nof).1, ((out.getD (out.length - 1) nof).2.1 ++ l, ((out.getD (out.length - 1) nof).2.2.1, ())))

/-- the fields of what is left of a letter -/
def spl : Nat → List UInt8 → Nat → List Fld → (List Fld × Nat) ⊕ (Nat × Int)
  | 0, _, at', out => .inl (out, at')
  | k + 1, rest, at', out =>
    if rest = [] then .inl (out, at')
    else if (ln rest).1 = [] then .inl (out, at' + (ln rest).2)
    else if 1024 < (ln rest).1.length then .inr (at', 6)
    else if (bl ((ln rest).1.getD 0 0) && decide (0 < out.length)) = true then spl k (rest.drop (ln rest).2) (at' + (ln rest).2) (addl out (ln rest).1)
    else match fst 58 (ln rest).1 with
      | none => .inr (at', 4)
      | some j =>
        if rn ((ln rest).1.take j) = true then
          if 40 ≤ out.length then .inr (at', 6)
          else spl k (rest.drop (ln rest).2) (at' + (ln rest).2) (out ++ [((ln rest).1.take j, ((ln rest).1.drop (j + 1), (((at' : Nat) : Int), ())))])
        else .inr (at', 4)

def fin : (List Fld × Nat) ⊕ (Nat × Int) → List Fld × Int × Int × Unit
  | .inl o => (o.1.map trf, ((o.2 : Nat) : Int), 0, ())
  | .inr e => ([], ((e.1 : Nat) : Int), e.2, ())

def split (b : List UInt8) : List Fld × Int × Int × Unit := fin (spl (b.length + 1) b 0 [])

/-- what is kept while a letter is split -/
def keeps (n : Nat) (rest : List UInt8) (out : List Fld) : Prop := out.length ≤ 40 ∧ ∀ f ∈ out, f.2.1.length + rest.length ≤ n

theorem keeps_add {n : Nat} {rest : List UInt8} {out : List Fld} (h : keeps n rest out) (h0 : 0 < out.length) : keeps n (rest.drop (ln rest).2) (addl out (ln rest).1) := by
  have hl := ln_le rest
  refine ⟨by unfold addl; rw [List.length_set]; exact h.1, fun f hf => ?_⟩
  rw [List.length_drop]
  rcases List.mem_or_eq_of_mem_set hf with hm | rfl
  · have := h.2 f hm; omega
  · have hmem : out.getD (out.length - 1) nof ∈ out := by
      rw [List.getD_eq_getElem?_getD, List.getElem?_eq_getElem (by omega)]
      exact List.getElem_mem _
    have := h.2 _ hmem
    simp only [List.length_append]
    omega

theorem keeps_new {n : Nat} {rest : List UInt8} {out : List Fld} (h : keeps n rest out) (h40 : out.length < 40) (hn : rest.length ≤ n) (a : List UInt8) (j : Nat) (i : Int) :
    keeps n (rest.drop (ln rest).2) (out ++ [(a, ((ln rest).1.drop (j + 1), (i, ())))]) := by
  have hl := ln_le rest
  refine ⟨by rw [List.length_append, List.length_singleton]; omega, fun f hf => ?_⟩
  rw [List.length_drop]
  rcases List.mem_append.mp hf with hm | hm
  · have := h.2 f hm; omega
  · rw [List.mem_singleton] at hm
    subst hm
    simp only [List.length_drop]
    omega

abbrev R10 : Type := (((List UInt8 × Unit × Unit) × (List Fld × Unit)) ⊕ ((Unit × Int × Int × Unit) × (List Fld × Unit)))

def post10 (n : Nat) : R10 → List Fld × Int × Int × Unit
  | .inl q => (q.2.1.map trf, (n : Int), 0, ())
  | .inr q => (q.2.1, q.1.2.1, q.1.2.2.1, ())

theorem lastD {out : List Fld} (h0 : 0 < out.length) (h40 : out.length ≤ 40) : w64 (((out.length : Nat) : Int) - 1) = ((out.length - 1 : Nat) : Int) := by
  rw [w64_id (by omega) (by omega)]; omega

theorem L10_iter (b : List UInt8) (hb : b.length ≤ 1100000) : ∀ (k K at' : Nat) (rest : List UInt8) (out : List Fld), at' ≤ b.length → b.drop at' = rest → keeps b.length rest out → rest.length < k → k ≤ K →
    ∃ r : R10, iter B10_0 K ((b, (), (at' : Int), ()), (out, ())) = some r ∧ post10 b.length r = fin (spl k rest at' out) ∧ (∀ q, r = .inl q → q.1.1 = b ∧ keeps b.length [] q.2.1)
  | 0, _, _, _, _, _, _, _, h, _ => absurd h (Nat.not_lt_zero _)
  | k + 1, 0, _, _, _, _, _, _, _, h => absurd h (by omega)
  | k + 1, K + 1, at', rest, out, hi, hd, hkeep, hk, hK => by
    by_cases hr : rest = []
    · subst hr
      have hl : b.length ≤ at' := List.drop_eq_nil_iff.mp hd
      obtain rfl : at' = b.length := by omega
      refine ⟨.inl ((b, (), ()), (out, ())), ?_, ?_, fun q h => by cases h; exact ⟨rfl, hkeep⟩⟩
      · simp only [iter, B10_0, Int.lt_irrefl, decide_false, cond_false]
      · simp only [post10, spl, ↓reduceIte, fin]
    · have hlt : at' < b.length := by
        rcases Nat.lt_or_ge at' b.length with h | h
        · exact h
        · rw [List.drop_eq_nil_iff.mpr h] at hd; exact absurd hd.symm hr
      have hlen := congrArg List.length hd
      rw [List.length_drop] at hlen
      have hle : decide (((at' : Nat) : Int) ≤ ((b.length : Nat) : Int)) = true := by rw [decide_eq_true_eq]; omega
      have htk : List.take (b.length - at') (List.drop at' b) = rest := by rw [hd]; exact List.take_of_length_le (by omega)
      have e23 := F23_eq rest hr (by omega)
      obtain ⟨n1, n2⟩ := ln_le rest
      have n3 : 1 ≤ (ln rest).2 := by
        cases rest with
        | nil => exact absurd rfl hr
        | cons a t => exact ln_pos a t
      have hw : w64 (((at' : Nat) : Int) + (((ln rest).2 : Nat) : Int)) = ((at' + (ln rest).2 : Nat) : Int) := by
        rw [w64_id (by omega) (by omega)]; omega
      have hdrop : b.drop (at' + (ln rest).2) = rest.drop (ln rest).2 := by rw [← List.drop_drop, hd]
      have hrest : (rest.drop (ln rest).2).length < k := by rw [List.length_drop]; omega
      unfold spl
      rw [if_neg hr]
      have hka : 0 < out.length → keeps b.length (rest.drop (ln rest).2) (addl out (ln rest).1) := fun h0 => keeps_add hkeep h0
      have hkn : out.length < 40 → ∀ j, keeps b.length (rest.drop (ln rest).2) (out ++ [((ln rest).1.take j, ((ln rest).1.drop (j + 1), (((at' : Nat) : Int), ())))]) := fun h j => keeps_new hkeep h (by omega) _ _ _
      have hval : ∀ f ∈ out, f.2.1.length ≤ 1100000 := fun f hf => by have := hkeep.2 f hf; omega
      have h40 := hkeep.1
      simp only [iter, B10_0, nat_lt, nat_nn, hlt, hle, Int.le_refl, decide_true, Bool.and_self, cond_true, Int.toNat_natCast, htk, e23, Option.bind_some]
      clear htk e23
      generalize ln rest = L at *
      obtain ⟨l, n⟩ := L
      simp only at *
      cases l with
      | nil =>
        have e24 := F24_eq out (by omega) hval
        simp only [List.length_nil, show decide (((0 : Nat) : Int) = 0) = true from rfl, cond_true, e24, Option.bind_some, hw, ↓reduceIte]
        exact ⟨_, rfl, rfl, fun q h => by cases h⟩
      | cons c t =>
        have d1 : decide ((((c :: t).length : Nat) : Int) = 0) = false := by rw [decide_eq_false_iff_not, List.length_cons]; omega
        have d2 : decide ((1024:Int) < (((c :: t).length : Nat) : Int)) = decide (1024 < (c :: t).length) := by rw [decide_eq_decide]; omega
        have d3 : decide ((0:Int) < (((c :: t).length : Nat) : Int)) = true := by rw [decide_eq_true_eq, List.length_cons]; omega
        have d4 : decide ((0:Int) < ((out.length : Nat) : Int)) = decide (0 < out.length) := by rw [decide_eq_decide]; omega
        have hne : ¬ ((c :: t) = ([] : List UInt8)) := by simp
        rw [if_neg hne]
        simp only [d1, d2, d3, d4, cond_false, cond_true, F25_eq, Option.bind_some]
        by_cases hlong : 1024 < (c :: t).length
        · simp only [hlong, decide_true, cond_true, ↓reduceIte]
          exact ⟨_, rfl, rfl, fun q h => by cases h⟩
        · simp only [hlong, decide_false, cond_false, ↓reduceIte]
          cases hbo : bl ((c :: t).getD 0 0) && decide (0 < out.length)
          case true =>
            have h0 : 0 < out.length := by
              rw [Bool.and_eq_true, decide_eq_true_eq] at hbo
              exact hbo.2
            have hwl := lastD h0 h40
            have hlt2 : out.length - 1 < out.length := by omega
            have hmem : out.getD (out.length - 1) nof ∈ out := by
              rw [List.getD_eq_getElem?_getD, List.getElem?_eq_getElem (by omega)]
              exact List.getElem_mem _
            have hfit : fits ((out.getD (out.length - 1) nof).2.1.length + (c :: t).length) = true := by
              have := hval _ hmem
              unfold fits; rw [decide_eq_true_eq]; omega
            have hfit' : fits ((out.getD (out.length - 1) (([]:List UInt8), (([]:List UInt8), ((0:Int), ())))).2.1.length + (c :: t).length) = true := hfit
            simp only [cond_true, hwl, nat_nn, nat_lt, hlt2, decide_true, Bool.and_self, Int.toNat_natCast, hfit', Option.bind_some, hw, ↓reduceIte]
            exact L10_iter b hb k K (at' + n) (rest.drop n) (addl out (c :: t)) (by omega) hdrop (hka h0) hrest (by omega)
          case false =>
            have hif := indexByte_fst 58 (c :: t)
            simp only [cond_false, List.isEmpty_cons, Bool.not_false, cond_true, Bool.false_eq_true, ↓reduceIte]
            rw [hif]
            cases hf : fst 58 (c :: t) with
            | none =>
              simp only [show decide ((-1:Int) < 0) = true from rfl, Bool.or_true, Bool.not_true, cond_true, cond_false]
              exact ⟨_, rfl, rfl, fun q h => by cases h⟩
            | some j =>
              have hj := fst_lt 58 _ j hf
              have c1 : decide ((j : Int) < 0) = false := by rw [decide_eq_false_iff_not]; omega
              have c2 : decide ((j : Int) ≤ (((c :: t).length : Nat) : Int)) = true := by rw [decide_eq_true_eq]; omega
              have c3 : decide (((j + 1 : Nat) : Int) ≤ (((c :: t).length : Nat) : Int)) = true := by rw [decide_eq_true_eq]; omega
              have e27 := F27_eq ((c :: t).take j) (by rw [List.length_take]; omega)
              simp only [nat_nn, c1, c2, Bool.and_self, Bool.true_or, Bool.not_false, cond_true, Int.toNat_natCast, e27, Option.bind_some]
              by_cases hrn : rn ((c :: t).take j) = true
              · by_cases h4 : 40 ≤ out.length
                · have : decide (((out.length : Nat) : Int) = 40) = true := by rw [decide_eq_true_eq]; omega
                  simp only [hrn, Bool.not_true, cond_false, this, cond_true, h4, ↓reduceIte]
                  exact ⟨_, rfl, rfl, fun q h => by cases h⟩
                · have d40 : decide (((out.length : Nat) : Int) = 40) = false := by rw [decide_eq_false_iff_not]; omega
                  have hby : ∀ x : Fld, bytesOK (out.length + ([x] : List Fld).length) 40 = true := fun x => by
                    unfold bytesOK; rw [decide_eq_true_eq, List.length_singleton]; omega
                  have htl : List.take ((c :: t).length - (j + 1)) (List.drop (j + 1) (c :: t)) = List.drop (j + 1) (c :: t) := List.take_of_length_le (by rw [List.length_drop]; omega)
                  simp only [hrn, Bool.not_true, cond_false, cond_true, d40, h4, ↓reduceIte, w64_nat (show j < 9223372036854775807 by omega), nat_nn, c3, Int.le_refl, decide_true, Bool.and_self, Int.toNat_natCast, htl, hby, Option.bind_some, hw]
                  exact L10_iter b hb k K (at' + n) (rest.drop n) _ (by omega) hdrop (hkn (by omega) j) hrest (by omega)
              · have hrn' := hrn
                rw [Bool.not_eq_true] at hrn'
                simp only [hrn', Bool.not_false, cond_true, Bool.false_eq_true, ↓reduceIte]
                exact ⟨_, rfl, rfl, fun q h => by cases h⟩

theorem F10_eq (b : List UInt8) (hb : b.length ≤ 1100000) : F10 ((b, ()), ()) = some (((), (split b).2.1, (split b).2.2.1, ()), ((split b).1, ())) := by
  obtain ⟨r, h1, h2, h3⟩ := L10_iter b hb (b.length + 1) FUEL 0 b [] (Nat.zero_le _) rfl ⟨Nat.zero_le _, fun f hf => by cases hf⟩ (by omega) (by unfold FUEL; omega)
  have h1' : L10_0 ((b, (), (0:Int), ()), (([]:List Fld), ())) = some r := h1
  unfold split
  rw [← h2]
  simp only [F10, h1', Option.bind_some]
  cases r with
  | inl q =>
    obtain ⟨e1, e2⟩ := h3 q rfl
    obtain ⟨⟨q1, q2, q3⟩, q4, q5⟩ := q
    simp only at e1 e2
    subst e1
    have e24 := F24_eq q4 (Nat.le_trans e2.1 (by omega)) (fun f hf => by have := e2.2 f hf; omega)
    simp only [Option.bind_some, e24, post10]
  | inr q => simp only [Option.bind_some, post10]

/-! ### the document's answer -/
abbrev R11 : Type := (((Unit × Int × Unit) × (List Fld × Unit)) ⊕ ((Unit × Int × Int × Unit) × (List Fld × Unit)))

def post11 : R11 → List Fld × Int × Int × Unit
  | .inl q => (q.2.1.map trf, q.1.2.1, 0, ())
  | .inr q => (q.2.1, q.1.2.1, q.1.2.2.1, ())

theorem L11_iter (b : List UInt8) (hb : b.length ≤ 1100000) : ∀ (k K at' : Nat) (rest : List UInt8) (out : List Fld), at' ≤ b.length → b.drop at' = rest → keeps b.length rest out → rest.length < k → k ≤ K →
    ∃ r : R11, iter B11_0 K ((b, (), (at' : Int), ()), (out, ())) = some r ∧ post11 r = fin (spl k rest at' out) ∧ (∀ q, r = .inl q → keeps b.length [] q.2.1)
  | 0, _, _, _, _, _, _, _, h, _ => absurd h (Nat.not_lt_zero _)
  | k + 1, 0, _, _, _, _, _, _, _, h => absurd h (by omega)
  | k + 1, K + 1, at', rest, out, hi, hd, hkeep, hk, hK => by
    have hkeep0 : keeps b.length [] out := ⟨hkeep.1, fun f hf => by have := hkeep.2 f hf; simp only [List.length_nil]; omega⟩
    by_cases hr : rest = []
    · subst hr
      have hl : b.length ≤ at' := List.drop_eq_nil_iff.mp hd
      obtain rfl : at' = b.length := by omega
      refine ⟨.inl (((), (b.length : Int), ()), (out, ())), ?_, ?_, fun q h => by cases h; exact hkeep0⟩
      · simp only [iter, B11_0, Int.lt_irrefl, decide_false, cond_false]
      · simp only [post11, spl, ↓reduceIte, fin]
    · have hlt : at' < b.length := by
        rcases Nat.lt_or_ge at' b.length with h | h
        · exact h
        · rw [List.drop_eq_nil_iff.mpr h] at hd; exact absurd hd.symm hr
      have hlen := congrArg List.length hd
      rw [List.length_drop] at hlen
      have e28 := F28_eq b at' hb hi
      rw [hd] at e28
      obtain ⟨n1, n2⟩ := ln_le rest
      have n3 : 1 ≤ (ln rest).2 := by
        cases rest with
        | nil => exact absurd rfl hr
        | cons a t => exact ln_pos a t
      have hc1 : decide (((at' : Nat) : Int) ≤ ((at' + (ln rest).1.length : Nat) : Int)) = true := by rw [decide_eq_true_eq]; omega
      have hc2 : decide (((at' + (ln rest).1.length : Nat) : Int) ≤ ((b.length : Nat) : Int)) = true := by rw [decide_eq_true_eq]; omega
      have htk : List.take (at' + (ln rest).1.length - at') (List.drop at' b) = (ln rest).1 := by
        rw [hd, Nat.add_sub_cancel_left]; exact (ln_take rest).symm
      have hdrop : b.drop (at' + (ln rest).2) = rest.drop (ln rest).2 := by rw [← List.drop_drop, hd]
      have hrest : (rest.drop (ln rest).2).length < k := by rw [List.length_drop]; omega
      unfold spl
      rw [if_neg hr]
      have hka : 0 < out.length → keeps b.length (rest.drop (ln rest).2) (addl out (ln rest).1) := fun h0 => keeps_add hkeep h0
      have hkn : out.length < 40 → ∀ j, keeps b.length (rest.drop (ln rest).2) (out ++ [((ln rest).1.take j, ((ln rest).1.drop (j + 1), (((at' : Nat) : Int), ())))]) := fun h j => keeps_new hkeep h (by omega) _ _ _
      have hval : ∀ f ∈ out, f.2.1.length ≤ 1100000 := fun f hf => by have := hkeep.2 f hf; omega
      have h40 := hkeep.1
      simp only [iter, B11_0, nat_lt, nat_nn, hlt, decide_true, cond_true, e28, Option.bind_some, hc1, hc2, Bool.and_self, Int.toNat_natCast, htk]
      clear htk e28 hc1 hc2
      generalize ln rest = L at *
      obtain ⟨l, n⟩ := L
      simp only at *
      cases l with
      | nil =>
        simp only [List.length_nil, show decide (((0 : Nat) : Int) = 0) = true from rfl, cond_true, ↓reduceIte]
        exact ⟨_, rfl, rfl, fun q h => by cases h; exact hkeep0⟩
      | cons c t =>
        have d1 : decide ((((c :: t).length : Nat) : Int) = 0) = false := by rw [decide_eq_false_iff_not, List.length_cons]; omega
        have d2 : decide ((1024:Int) < (((c :: t).length : Nat) : Int)) = decide (1024 < (c :: t).length) := by rw [decide_eq_decide]; omega
        have d3 : decide ((0:Int) < (((c :: t).length : Nat) : Int)) = true := by rw [decide_eq_true_eq, List.length_cons]; omega
        have d4 : decide ((0:Int) < ((out.length : Nat) : Int)) = decide (0 < out.length) := by rw [decide_eq_decide]; omega
        have hne : ¬ ((c :: t) = ([] : List UInt8)) := by simp
        rw [if_neg hne]
        simp only [d1, d2, cond_false, Option.bind_some]
        by_cases hlong : 1024 < (c :: t).length
        · simp only [hlong, decide_true, cond_true, ↓reduceIte]
          exact ⟨_, rfl, rfl, fun q h => by cases h⟩
        · simp only [hlong, decide_false, cond_false, d3, d4, cond_true, F29_eq, Option.bind_some, ↓reduceIte]
          cases hbo : bl ((c :: t).getD 0 0) && decide (0 < out.length)
          case true =>
            have h0 : 0 < out.length := by
              rw [Bool.and_eq_true, decide_eq_true_eq] at hbo
              exact hbo.2
            have hwl := lastD h0 h40
            have hlt2 : out.length - 1 < out.length := by omega
            have hmem : out.getD (out.length - 1) nof ∈ out := by
              rw [List.getD_eq_getElem?_getD, List.getElem?_eq_getElem (by omega)]
              exact List.getElem_mem _
            have hfit : fits ((out.getD (out.length - 1) nof).2.1.length + (c :: t).length) = true := by
              have := hval _ hmem
              unfold fits; rw [decide_eq_true_eq]; omega
            have hfit' : fits ((out.getD (out.length - 1) (([]:List UInt8), (([]:List UInt8), ((0:Int), ())))).2.1.length + (c :: t).length) = true := hfit
            simp only [cond_true, hwl, nat_nn, nat_lt, hlt2, decide_true, Bool.and_self, Int.toNat_natCast, hfit', Option.bind_some, ↓reduceIte]
            exact L11_iter b hb k K (at' + n) (rest.drop n) (addl out (c :: t)) (by omega) hdrop (hka h0) hrest (by omega)
          case false =>
            have e30 := F30_eq (c :: t) (by omega)
            simp only [cond_false, e30, Option.bind_some, Bool.false_eq_true, ↓reduceIte]
            cases hf : fst 58 (c :: t) with
            | none =>
              simp only [show decide ((-1:Int) < 0) = true from rfl, Bool.or_true, Bool.not_true, cond_true, cond_false, Option.bind_some]
              exact ⟨_, rfl, rfl, fun q h => by cases h⟩
            | some j =>
              have hj := fst_lt 58 _ j hf
              have c1 : decide ((j : Int) < 0) = false := by rw [decide_eq_false_iff_not]; omega
              have c2 : decide ((j : Int) ≤ (((c :: t).length : Nat) : Int)) = true := by rw [decide_eq_true_eq]; omega
              have c3 : decide (((j + 1 : Nat) : Int) ≤ (((c :: t).length : Nat) : Int)) = true := by rw [decide_eq_true_eq]; omega
              have e31 := F31_eq ((c :: t).take j) (by rw [List.length_take]; omega)
              have d40 : decide ((40:Int) ≤ ((out.length : Nat) : Int)) = decide (40 ≤ out.length) := by rw [decide_eq_decide]; omega
              simp only [nat_nn, c1, c2, Bool.and_self, Bool.true_or, Bool.not_false, cond_true, Int.toNat_natCast, e31, Option.bind_some]
              by_cases hrn : rn ((c :: t).take j) = true
              · by_cases h4 : 40 ≤ out.length
                · simp only [hrn, Bool.not_true, cond_false, d40, h4, decide_true, cond_true, Option.bind_some, ↓reduceIte]
                  exact ⟨_, rfl, rfl, fun q h => by cases h⟩
                · have hby : ∀ x : Fld, bytesOK (out.length + ([x] : List Fld).length) 40 = true := fun x => by
                    unfold bytesOK; rw [decide_eq_true_eq, List.length_singleton]; omega
                  have htl : List.take ((c :: t).length - (j + 1)) (List.drop (j + 1) (c :: t)) = List.drop (j + 1) (c :: t) := List.take_of_length_le (by rw [List.length_drop]; omega)
                  simp only [hrn, Bool.not_true, cond_false, cond_true, d40, h4, decide_false, ↓reduceIte, w64_nat (show j < 9223372036854775807 by omega), nat_nn, c2, c3, Int.le_refl, decide_true, Bool.and_self, Int.toNat_natCast, htl, hby, Option.bind_some]
                  exact L11_iter b hb k K (at' + n) (rest.drop n) _ (by omega) hdrop (hkn (by omega) j) hrest (by omega)
              · have hrn' := hrn
                rw [Bool.not_eq_true] at hrn'
                simp only [hrn', Bool.not_false, cond_true, Bool.false_eq_true, ↓reduceIte, Option.bind_some]
                exact ⟨_, rfl, rfl, fun q h => by cases h⟩

theorem F11_eq (b : List UInt8) (hb : b.length ≤ 1100000) : F11 ((b, ()), ()) = some (split b, ()) := by
  obtain ⟨r, h1, h2, h3⟩ := L11_iter b hb (b.length + 1) FUEL 0 b [] (Nat.zero_le _) rfl ⟨Nat.zero_le _, fun f hf => by cases hf⟩ (by omega) (by unfold FUEL; omega)
  have h1' : L11_0 ((b, (), (0:Int), ()), (([]:List Fld), ())) = some r := h1
  unfold split
  rw [← h2]
  simp only [F11, h1', Option.bind_some]
  cases r with
  | inl q =>
    have e2 := h3 q rfl
    obtain ⟨⟨q1, q2, q3⟩, q4, q5⟩ := q
    simp only at e2
    have e := L11b_eq q2 q4 (Nat.le_trans e2.1 (by omega)) (fun f hf => by have := e2.2 f hf; omega)
    simp only [Option.bind_some, e, post11]
  | inr q => simp only [Option.bind_some, post11]

theorem addl_len (out : List Fld) (l : List UInt8) : (addl out l).length = out.length := by unfold addl; rw [List.length_set]

theorem spl_few : ∀ (k : Nat) (rest : List UInt8) (at' : Nat) (out : List Fld), out.length ≤ 40 → (fin (spl k rest at' out)).1.length ≤ 40
  | 0, _, _, out, h => by simp [spl, fin, h]
  | k + 1, rest, at', out, h => by
    unfold spl
    split
    · simp [fin, h]
    · split
      · simp [fin, h]
      · split
        · simp [fin]
        · split
          · exact spl_few k _ _ _ (by rw [addl_len]; exact h)
          · split
            · simp [fin]
            · split
              · split
                · simp [fin]
                · exact spl_few k _ _ _ (by rw [List.length_append, List.length_singleton]; omega)
              · simp [fin]

theorem L7_iter (b : List UInt8) (e : Int) (l : List Fld) : ∀ (k i : Nat) (c : List UInt8), c.length ≤ 1100000 → i ≤ c.length → c.length - i < k →
    iter (B7_0 F10 F11 F12 F13) k ((b, (), (), e, (i : Int), ()), (c, l, ())) = some ((b, (), e, ()), (l, ()))
  | 0, _, _, _, _, h => absurd h (Nat.not_lt_zero _)
  | k + 1, i, c, hc, hi, hk => by
    by_cases hlt : i < c.length
    · simp only [iter, B7_0, nat_lt, nat_nn, hlt, decide_true, Bool.and_self, cond_true, Int.toNat_natCast, Option.bind_some, w64_nat (show i < 9223372036854775807 by omega)]
      exact L7_iter b e l k (i + 1) _ (by rw [List.length_set]; exact hc) (by rw [List.length_set]; omega) (by rw [List.length_set]; omega)
    · simp only [iter, B7_0, nat_lt, hlt, decide_false, cond_false]

theorem law7 (b : List UInt8) (hb : b.length ≤ 1100000) : F7 ((b, ()), ()) = some (true, ()) := by
  have e13 := F13_same (split b).1 (Nat.le_trans (spl_few _ _ _ _ (Nat.zero_le _)) (by omega))
  have e7 : L7_0 F10 F11 F12 F13 ((b, (), (), (split b).2.2.1, (0:Int), ()), (b, (split b).1, ())) = _ := L7_iter b (split b).2.2.1 (split b).1 FUEL 0 b hb (Nat.zero_le _) (by unfold FUEL; omega)
  have hby : bytesOK (0 + b.length) 1 = true := by unfold bytesOK; rw [decide_eq_true_eq]; omega
  simp only [F7, F7a, hby, List.nil_append, F10_eq b hb, F11_eq b hb, live12, Option.bind_some, cond_true, cond_false, decide_true, Bool.not_true, e7, Bool.and_self, e13]

end Go.Hd
