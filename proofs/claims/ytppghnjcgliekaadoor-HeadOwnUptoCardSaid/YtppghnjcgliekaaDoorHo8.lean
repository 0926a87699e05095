/- Lines. -/
import Derived.Test.YtppghnjcgliekaaDoorHo2
import Derived.Lib.IndexBytes
namespace Go.Hd
open Go Go.Ev
set_option maxRecDepth 100000

abbrev Fld : Type := List UInt8 × (List UInt8 × (Int × Unit))

/-- the line at a text's beginning, and where the next one begins -/
def ln : List UInt8 → List UInt8 × Nat
  | [] => ([], 0)
  | a :: t => if a = 13 ∧ t.head? = some 10 then ([], 2) else (a :: (ln t).1, (ln t).2 + 1)

theorem ln_le : ∀ l : List UInt8, (ln l).2 ≤ l.length ∧ (ln l).1.length ≤ (ln l).2
  | [] => ⟨Nat.le_refl _, Nat.le_refl _⟩
  | a :: t => by
    have ih := ln_le t
    unfold ln
    split
    · next h =>
      have : t ≠ [] := by rintro rfl; cases h.2
      have := List.length_pos_iff.mpr this
      simp only [List.length_cons, List.length_nil]
      omega
    · simp only [List.length_cons]; omega

theorem ln_pos (a : UInt8) (t : List UInt8) : 1 ≤ (ln (a :: t)).2 := by
  unfold ln
  split
  · decide
  · simp

theorem ln_take : ∀ l : List UInt8, (ln l).1 = l.take (ln l).1.length
  | [] => rfl
  | a :: t => by
    have ih := ln_take t
    unfold ln
    split
    · rfl
    · simp only [List.length_cons, List.take_succ_cons]
      rw [← ih]

theorem pre1310 (a : UInt8) (t : List UInt8) : ([13, 10] : List UInt8).isPrefixOf (a :: t) = decide (a = 13 ∧ t.head? = some 10) := by
  rw [Bool.eq_iff_iff, decide_eq_true_eq]
  cases t with
  | nil => simp [List.isPrefixOf]
  | cons b t =>
    simp only [List.isPrefixOf, Bool.and_eq_true, beq_iff_eq, Bool.and_true, List.head?_cons, Option.some.injEq]
    exact ⟨fun h => ⟨h.1.symm, h.2.symm⟩, fun h => ⟨h.1.symm, h.2.symm⟩⟩

theorem ln_index : ∀ l : List UInt8, (Lib.index l [13, 10] = -1 ∧ ln l = (l, l.length)) ∨ (∃ i : Nat, Lib.index l [13, 10] = (i : Int) ∧ ln l = (l.take i, i + 2) ∧ i + 2 ≤ l.length)
  | [] => .inl ⟨rfl, rfl⟩
  | a :: t => by
    unfold Lib.index ln
    rw [pre1310]
    by_cases h : a = 13 ∧ t.head? = some 10
    · right
      have : t ≠ [] := by rintro rfl; cases h.2
      have := List.length_pos_iff.mpr this
      exact ⟨0, by simp [h], by simp [h], by simp only [List.length_cons]; omega⟩
    · rcases ln_index t with ⟨h1, h2⟩ | ⟨i, h1, h2, h3⟩
      · left
        rw [h1, h2]
        simp [h]
      · right
        rw [h1, h2]
        refine ⟨i + 1, ?_, ?_, by simp only [List.length_cons]; omega⟩
        · have : ¬ ((i : Int) == -1) = true := by
            intro e
            have := eq_of_beq e
            omega
          simp [h, this]
        · simp [h]

theorem F23_eq (l : List UInt8) (h0 : l ≠ []) (hl : l.length ≤ 1100000) : F23 ((l, ()), ()) = some (((ln l).1, (((ln l).2 : Nat) : Int), ()), ()) := by
  have c0 : ((((!(List.isEmpty l)) && (decide (l.length < 4294967281))) && true) && true) = true := by
    cases l with
    | nil => exact absurd rfl h0
    | cons a t => simp only [List.isEmpty_cons, Bool.not_false, Bool.true_and, Bool.and_true]; rw [decide_eq_true_eq]; omega
  simp only [F23, c0, cond_true]
  rcases ln_index l with ⟨h1, h2⟩ | ⟨i, h1, h2, h3⟩
  · rw [h1, h2]; rfl
  · have c1 : decide ((i : Int) < 0) = false := by rw [decide_eq_false_iff_not]; omega
    have c2 : decide ((i : Int) ≤ ((l.length : Nat) : Int)) = true := by rw [decide_eq_true_eq]; omega
    have c3 : w64 ((i : Int) + 2) = ((i + 2 : Nat) : Int) := by rw [w64_id (by omega) (by omega)]; omega
    rw [h1, h2]
    simp only [c1, c2, c3, nat_nn, Bool.and_self, cond_true, cond_false, Int.toNat_natCast]

def post28 (n : Nat) (r : ((List UInt8 × Unit) × Unit) ⊕ ((Int × Int × Unit) × Unit)) : Int × Int :=
  match r with
  | .inl _ => ((n : Int), (n : Int))
  | .inr q => (q.1.1, q.1.2.1)

theorem L28_iter (b : List UInt8) (hb : b.length ≤ 1100000) : ∀ (rest : List UInt8) (k at' : Nat), at' ≤ b.length → b.drop at' = rest → rest.length < k →
    ∃ r, iter B28_0 k ((b, (at' : Int), ()), ()) = some r ∧ (∀ q, r = .inl q → q.1.1 = b) ∧ post28 b.length r = (((at' + (ln rest).1.length : Nat) : Int), ((at' + (ln rest).2 : Nat) : Int))
  | _, 0, _, _, _, h => absurd h (Nat.not_lt_zero _)
  | [], k + 1, at', hi, hd, _ => by
    have hl : b.length ≤ at' := List.drop_eq_nil_iff.mp hd
    have : decide (((at' + 1 : Nat) : Int) < ((b.length : Nat) : Int)) = false := by rw [decide_eq_false_iff_not]; omega
    refine ⟨.inl ((b, ()), ()), ?_, fun q h => by cases h; rfl, ?_⟩
    · simp only [iter, B28_0, w64_nat (show at' < 9223372036854775807 by omega), this, cond_false]
    · have : b.length = at' := by omega
      simp [post28, ln, this]
  | [a], k + 1, at', hi, hd, _ => by
    have hl := congrArg List.length hd
    rw [List.length_drop, List.length_singleton] at hl
    have : decide (((at' + 1 : Nat) : Int) < ((b.length : Nat) : Int)) = false := by rw [decide_eq_false_iff_not]; omega
    refine ⟨.inl ((b, ()), ()), ?_, fun q h => by cases h; rfl, ?_⟩
    · simp only [iter, B28_0, w64_nat (show at' < 9223372036854775807 by omega), this, cond_false]
    · have : b.length = at' + 1 := by omega
      simp [post28, ln, this]
  | a :: c :: t, k + 1, at', hi, hd, hk => by
    have hl := congrArg List.length hd
    rw [List.length_drop, List.length_cons, List.length_cons] at hl
    have hlt : at' < b.length := by omega
    have hlt1 : at' + 1 < b.length := by omega
    have e := List.drop_eq_getElem_cons hlt
    rw [hd] at e
    obtain ⟨e1, e2⟩ := List.cons.inj e
    have ee := List.drop_eq_getElem_cons hlt1
    rw [← e2] at ee
    obtain ⟨e3, e4⟩ := List.cons.inj ee
    have g1 : b.getD at' (0:UInt8) = a := by rw [List.getD_eq_getElem?_getD, List.getElem?_eq_getElem hlt, e1]; rfl
    have g2 : b.getD (at' + 1) (0:UInt8) = c := by rw [List.getD_eq_getElem?_getD, List.getElem?_eq_getElem hlt1, e3]; rfl
    have c3 : w64 ((at' : Int) + 2) = ((at' + 2 : Nat) : Int) := by rw [w64_id (by omega) (by omega)]; omega
    simp only [iter, B28_0, w64_nat (show at' < 9223372036854775807 by omega), nat_lt, nat_nn, hlt, hlt1, decide_true, Bool.and_self, Bool.true_or, cond_true, Int.toNat_natCast, g1, g2, c3]
    by_cases h : a = 13 ∧ c = 10
    · obtain ⟨rfl, rfl⟩ := h
      exact ⟨.inr ((((at' : Nat) : Int), ((at' + 2 : Nat) : Int), ()), ()), rfl, (fun q h => by cases h), by simp [post28, ln]⟩
    · have h' : (decide (a = 13) && decide (c = 10)) = false := by
        rw [Bool.and_eq_false_iff, decide_eq_false_iff_not, decide_eq_false_iff_not]
        by_cases ha : a = 13
        · exact .inr fun hc => h ⟨ha, hc⟩
        · exact .inl ha
      obtain ⟨r, q1, q2, q3⟩ := L28_iter b hb (c :: t) k (at' + 1) (by omega) e2.symm (by simp only [List.length_cons] at hk ⊢; omega)
      simp only [h', cond_false]
      refine ⟨r, q1, q2, ?_⟩
      rw [q3]
      have hn : ln (a :: c :: t) = (a :: (ln (c :: t)).1, (ln (c :: t)).2 + 1) := by
        conv => lhs; unfold ln
        rw [if_neg (by simpa using h)]
      rw [hn]
      simp only [List.length_cons]
      congr 2 <;> omega

theorem F28_eq (b : List UInt8) (at' : Nat) (hb : b.length ≤ 1100000) (hi : at' ≤ b.length) : F28 ((b, (at' : Int), ()), ()) = some ((((at' + (ln (b.drop at')).1.length : Nat) : Int), ((at' + (ln (b.drop at')).2 : Nat) : Int), ()), ()) := by
  have hF := FUEL_big
  obtain ⟨r, h1, h2, h3⟩ := L28_iter b hb _ FUEL at' hi rfl (by rw [List.length_drop]; omega)
  have h1' : L28_0 ((b, (at' : Int), ()), ()) = some r := h1
  simp only [F28, h1', Option.bind_some]
  cases r with
  | inl q =>
    have := h2 q rfl
    simp only [post28, Prod.mk.injEq] at h3
    simp only [Option.bind_some, this, h3.1]
    rw [← h3.2, h3.1]
  | inr q =>
    simp only [post28, Prod.mk.injEq] at h3
    simp only [Option.bind_some, h3.1, h3.2]

theorem F30_eq (l : List UInt8) (hl : l.length ≤ 1100000) : F30 ((l, ()), ()) = some (match fst 58 l with | none => -1 | some k => (k : Int), ()) := by
  have hF := FUEL_big
  have h2 := walk_listI (f := B30_0) (fun (_ : Nat) i => ((l, (i : Int), ()), ())) l
    (fun a k => if a = 58 then .inr (.inr ((((k : Nat) : Int), ()), ())) else .inl (k + 1)) (fun _ => .inl ((), ())) (fun b i => b = i) (b := 0)
    (fun b i a hI hi ha => by
      subst hI
      simp only [B30_0, nat_nn, nat_lt, hi, decide_true, Bool.and_self, cond_true, Int.toNat_natCast, ha]
      by_cases h : a = 58
      · right
        refine ⟨_, if_pos h, ?_⟩
        simp only [h, decide_true, cond_true]
      · left
        refine ⟨b + 1, if_neg h, rfl, ?_⟩
        simp only [h, decide_false, cond_false, w64_nat (show b < 9223372036854775807 by omega)])
    (fun b _ => by simp only [B30_0, Int.lt_irrefl, decide_false, cond_false]) (by omega) rfl
  have h3 : L30_0 ((l, (0:Int), ()), ()) = _ := h2
  simp only [F30, h3]
  clear h2 h3
  suffices H : ∀ (t : List UInt8) (k : Nat), foldS (fun (a : UInt8) (k : Nat) => if a = 58 then (.inr (.inr ((((k : Nat) : Int), ()), ())) : Nat ⊕ ((Unit × Unit) ⊕ ((Int × Unit) × Unit))) else .inl (k + 1)) (fun _ => .inl ((), ())) k t =
      match fst 58 t with | none => .inl ((), ()) | some j => .inr ((((k + j : Nat) : Int), ()), ()) by
    rw [H l 0]
    cases fst 58 l with
    | none => rfl
    | some j => simp
  intro t
  induction t with
  | nil => intro k; rfl
  | cons a t ih =>
    intro k
    simp only [foldS, fst]
    by_cases h : a = 58
    · simp only [h, ↓reduceIte, Nat.add_zero]
    · simp only [h, ↓reduceIte]
      rw [ih]
      cases fst 58 t with
      | none => rfl
      | some j =>
        simp only [Option.map_some]
        rw [show k + 1 + j = k + (j + 1) by omega]

def trf (f : Fld) : Fld := (f.1, (trm f.2.1, (f.2.2.1, ())))

theorem append_set {α : Type} : ∀ (a t : List α) (x y : α), (a ++ x :: t).set a.length y = a ++ y :: t
  | [], _, _, _ => rfl
  | b :: a, t, x, y => by
    simp only [List.cons_append, List.length_cons, List.set_cons_succ, append_set a t x y]

theorem drop_cons {α : Type} {s : List α} {i : Nat} {a : α} (hi : i < s.length) (ha : ∀ d, s.getD i d = a) : s.drop i = a :: s.drop (i + 1) := by
  rw [List.drop_eq_getElem_cons hi]
  have := ha s[i]
  rw [List.getD_eq_getElem?_getD, List.getElem?_eq_getElem hi] at this
  rw [show s[i] = a from this]

theorem foldS_push {α β τ : Type} (g : α → β) (fin : List β → τ) : ∀ (s : List α) (b : List β), foldS (fun a b => (.inl (b ++ [g a]) : List β ⊕ τ)) fin b s = fin (b ++ s.map g)
  | [], b => by simp [foldS]
  | a :: t, b => by
    simp only [foldS]
    rw [foldS_push g fin t]
    simp

theorem F24_eq (o : List Fld) (hlen : o.length ≤ 1000) (ho : ∀ f ∈ o, f.2.1.length ≤ 1100000) : F24 (((), ()), (o, ())) = some ((), (o.map trf, ())) := by
  have hF := FUEL_big
  have h := walk_listI (f := B24_0) (fun (b : List Fld) i => (((), (o.length : Int), (i : Int), ()), (b ++ o.drop i, ()))) o (fun a b => .inl (b ++ [trf a])) (fun b => (((), ()), (b, ()))) (fun b i => b.length = i) (b := [])
    (fun b i a hI hi ha => .inl ⟨_, rfl, by rw [List.length_append, hI]; rfl, by
      subst hI
      have hd := drop_cons hi ha
      have hm : a ∈ o := by
        have := ha a
        rw [List.getD_eq_getElem?_getD, List.getElem?_eq_getElem hi] at this
        rw [← show o[b.length] = a from this]
        exact List.getElem_mem hi
      have hlt : b.length < (b ++ o.drop b.length).length := by rw [hd]; simp
      have hg : (b ++ o.drop b.length).getD b.length (([]:List UInt8), (([]:List UInt8), ((0:Int), ()))) = a := by
        rw [hd, List.getD_eq_getElem?_getD, List.getElem?_append_right (Nat.le_refl _)]
        simp
      have hset : (b ++ o.drop b.length).set b.length (trf a) = b ++ [trf a] ++ o.drop (b.length + 1) := by
        rw [hd, append_set]; simp
      have e := F36_eq a.2.1 (by have := ho a hm; omega)
      have hset' : (b ++ o.drop b.length).set b.length (a.1, (trm a.2.1, (a.2.2.1, ()))) = b ++ [trf a] ++ o.drop (b.length + 1) := hset
      simp only [B24_0, nat_lt, nat_nn, hi, hlt, decide_true, Bool.and_self, cond_true, Int.toNat_natCast, hg, e, Option.bind_some, hset', w64_nat (show b.length < 9223372036854775807 by omega)]⟩)
    (fun b _ => by simp only [B24_0, Int.lt_irrefl, decide_false, cond_false, List.drop_length, List.append_nil]) (by omega) rfl
  rw [foldS_push, List.nil_append] at h
  have h' : L24_0 (((), (o.length : Int), (0:Int), ()), (o, ())) = _ := h
  simp only [F24, h', Option.bind_some, List.nil_append]

theorem L11b_eq (at' : Int) (o : List Fld) (hlen : o.length ≤ 1000) (ho : ∀ f ∈ o, f.2.1.length ≤ 1100000) : L11_1 (((), at', (0:Int), ()), (o, ())) = some (((), at', ()), (o.map trf, ())) := by
  have hF := FUEL_big
  have h := walk_listI (f := B11_1) (fun (b : List Fld) i => (((), at', (i : Int), ()), (b ++ o.drop i, ()))) o (fun a b => .inl (b ++ [trf a])) (fun b => (((), at', ()), (b, ()))) (fun b i => b.length = i ∧ i ≤ o.length) (b := [])
    (fun b i a hI hi ha => .inl ⟨_, rfl, by rw [List.length_append, hI.1]; exact ⟨rfl, hi⟩, by
      obtain ⟨rfl, hle⟩ := hI
      have hd := drop_cons hi ha
      have hm : a ∈ o := by
        have := ha a
        rw [List.getD_eq_getElem?_getD, List.getElem?_eq_getElem hi] at this
        rw [← show o[b.length] = a from this]
        exact List.getElem_mem hi
      have hlt : b.length < (b ++ o.drop b.length).length := by rw [hd]; simp
      have hg : (b ++ o.drop b.length).getD b.length (([]:List UInt8), (([]:List UInt8), ((0:Int), ()))) = a := by
        rw [hd, List.getD_eq_getElem?_getD, List.getElem?_append_right (Nat.le_refl _)]
        simp
      have hset : (b ++ o.drop b.length).set b.length (trf a) = b ++ [trf a] ++ o.drop (b.length + 1) := by
        rw [hd, append_set]; simp
      have e := F32_eq a.2.1 (ho a hm)
      have hset' : (b ++ o.drop b.length).set b.length (a.1, (trm a.2.1, (a.2.2.1, ()))) = b ++ [trf a] ++ o.drop (b.length + 1) := hset
      simp only [B11_1, nat_lt, nat_nn, hlt, decide_true, Bool.and_self, cond_true, Int.toNat_natCast, hg, e, Option.bind_some, hset', w64_nat (show b.length < 9223372036854775807 by omega)]⟩)
    (fun b hI => by
      have : (b ++ List.drop o.length o).length = o.length := by rw [List.drop_length, List.append_nil]; exact hI.1
      simp only [B11_1, this, Int.lt_irrefl, decide_false, cond_false]
      rw [List.drop_length, List.append_nil]) (by omega) ⟨rfl, Nat.zero_le _⟩
  rw [foldS_push, List.nil_append] at h
  exact h

theorem F13_same (a : List Fld) (ha : a.length ≤ 1000000) : F13 ((a, a, ()), ()) = some (true, ()) := by
  have hF := FUEL_big
  have h := walk_list (f := B13_0) (fun (_ : Unit) i => ((a, a, (i : Int), ()), ())) a (fun a (_ : Unit) => .inl ()) (fun _ => .inl ((), ())) (b := ())
    (fun b i x hi hx => by
      simp only [B13_0, nat_lt, nat_nn, hi, decide_true, Bool.and_self, cond_true, cond_false, Int.toNat_natCast, hx, Bool.not_true, w64_nat (show i < 9223372036854775807 by omega)])
    (fun b => by simp only [B13_0, Int.lt_irrefl, decide_false, cond_false]) (by omega)
  have hfold : ∀ t : List Fld, foldS (fun a (_ : Unit) => (.inl () : Unit ⊕ ((Unit × Unit) ⊕ ((Unit × Unit) × Unit)))) (fun _ => .inl ((), ())) () t = .inl ((), ()) := by
    intro t
    induction t with
    | nil => rfl
    | cons a t ih => exact ih
  rw [hfold] at h
  have h' : L13_0 ((a, a, (0:Int), ()), ()) = _ := h
  simp only [F13, h', Option.bind_some, decide_true, Bool.not_true, cond_false]

end Go.Hd
