/- Boxes: the law BoxFinds. -/
import Derived.Test.YtbnmcdcpendjjaaBx8
namespace Go.Bx
open Go Go.Ev
set_option maxRecDepth 100000

def odd (t : Qry) : Bool := decide (t.1 < 1) || decide (7 < t.1)

abbrev R42 : Type := (Unit × Unit) ⊕ ((Int × Unit) × Unit)

theorem foldS_any {α τ : Type} (g : α → Bool) (y : Nat → τ) (n : τ) : ∀ (s : List α) (b : Nat),
    (∃ k : Nat, s.any g = true ∧ foldS (fun a (b : Nat) => if g a = true then (.inr (y b) : Nat ⊕ τ) else .inl (b + 1)) (fun _ => n) b s = y k) ∨ (s.any g = false ∧ foldS (fun a (b : Nat) => if g a = true then (.inr (y b) : Nat ⊕ τ) else .inl (b + 1)) (fun _ => n) b s = n)
  | [], _ => .inr ⟨rfl, rfl⟩
  | a :: t, b => by
    simp only [foldS, List.any_cons]
    by_cases h : g a = true
    · simp only [h, ↓reduceIte, Bool.true_or]
      exact .inl ⟨b, trivial, rfl⟩
    · simp only [h, ↓reduceIte, Bool.false_or]
      exact foldS_any g y n t (b + 1)

theorem F27a_eq (q : List Qry) (hq : q.length ≤ 16) : F27c28 ((q, (), ()), ()) = some (q.any odd, ()) := by
  have hF := FUEL_big
  have h : L42c28_0 ((q, (), ((q.length : Nat) : Int), (0:Int), ()), ()) = some (foldS (fun a (b : Nat) => if odd a = true then (.inr (.inr (((b : Int), ()), ())) : Nat ⊕ R42) else .inl (b + 1)) (fun _ => .inl ((), ())) 0 q) := by
    refine walk_listI (f := B42c28_0) (fun (_ : Nat) i => ((q, (), ((q.length : Nat) : Int), (i : Int), ()), ())) q _ _ (fun b i => b = i) (b := 0)
      (fun b i a hI hi ha => ?_) (fun b _ => ?_) (by omega) rfl
    · subst hI
      simp only [B42c28_0, F28, nat_lt, nat_nn, hi, decide_true, Bool.and_true, cond_true, Int.toNat_natCast, ha, Option.bind_some]
      change (∃ c, (if odd a = true then _ else _) = _ ∧ _ ∧ (cond (odd a) _ _) = _) ∨ (∃ r, (if odd a = true then _ else _) = _ ∧ (cond (odd a) _ _) = _)
      cases odd a
      · exact .inl ⟨_, rfl, rfl, by simp only [cond_false, w64_nat (show b < 9223372036854775807 by omega)]⟩
      · exact .inr ⟨_, rfl, rfl⟩
    · simp only [B42c28_0, Int.lt_irrefl, decide_false, cond_false]
  rcases foldS_any odd (fun b => (.inr (((b : Int), ()), ()) : R42)) (.inl ((), ())) q 0 with ⟨k, h1, h2⟩ | ⟨h1, h2⟩
  · rw [h2] at h
    simp only [F27c28, F42c28, h, Option.bind_some, nat_nn, h1]
  · rw [h2] at h
    simp only [F27c28, F42c28, h, Option.bind_some, h1]
    rfl

abbrev R42' : Type := (((Unit × Unit) × Unit) × ((Int × UInt8 × (List UInt8) × Unit) × Unit)) ⊕ (((Unit × Unit) × Int × Unit) × ((Int × UInt8 × (List UInt8) × Unit) × Unit))

theorem F27b_eq (q : List Qry) (l : Ltr) (hq : q.length ≤ 16) (hl : l.2.2.1.length ≤ 600) (ht : ∀ t ∈ q, t.2.2.2.2.1.length ≤ maxLen) :
    F27c29 ((q, ((), ()), ()), ((l.1, l.2.1, l.2.2.1, ()), ())) = some (q.any (fun t => !ask l t), ((l.1, l.2.1, l.2.2.1, ()), ())) := by
  have hF := FUEL_big
  have h : L42c29_0 ((q, ((), ()), ((q.length : Nat) : Int), (0:Int), ()), ((l.1, l.2.1, l.2.2.1, ()), ())) = some (foldS (fun a (b : Nat) => if (!ask l a) = true then (.inr (.inr ((((), ()), (b : Int), ()), ((l.1, l.2.1, l.2.2.1, ()), ()))) : Nat ⊕ R42') else .inl (b + 1)) (fun _ => .inl ((((), ()), ()), ((l.1, l.2.1, l.2.2.1, ()), ()))) 0 q) := by
    refine walk_listI (f := B42c29_0) (fun (_ : Nat) i => ((q, ((), ()), ((q.length : Nat) : Int), (i : Int), ()), ((l.1, l.2.1, l.2.2.1, ()), ()))) q _ _ (fun b i => b = i) (b := 0)
      (fun b i a hI hi ha => ?_) (fun b _ => ?_) (by omega) rfl
    · subst hI
      have hm : a ∈ q := by
        rw [← ha (0, 0, 0, 0, [], ()), List.getD_eq_getElem?_getD, List.getElem?_eq_getElem hi]
        exact List.getElem_mem hi
      have e29 : F29 (((a.1, a.2.1, a.2.2.1, a.2.2.2.1, a.2.2.2.2.1, ()), (), ()), ((l.1, l.2.1, l.2.2.1, ()), ())) = some ((!ask l a), ((l.1, l.2.1, l.2.2.1, ()), ())) := by
        simp only [F29, F30_eq l a hl (ht a hm), Option.bind_some]
      simp only [B42c29_0, nat_lt, nat_nn, hi, decide_true, Bool.and_true, cond_true, Int.toNat_natCast, ha]
      rw [e29]
      simp only [Option.bind_some]
      cases ask l a
      · exact .inr ⟨_, rfl, rfl⟩
      · exact .inl ⟨_, rfl, rfl, by simp only [Bool.not_true, cond_false, w64_nat (show b < 9223372036854775807 by omega)]⟩
    · simp only [B42c29_0, Int.lt_irrefl, decide_false, cond_false]
  rcases foldS_any (fun t => !ask l t) (fun b => (.inr ((((), ()), (b : Int), ()), ((l.1, l.2.1, l.2.2.1, ()), ())) : R42')) (.inl ((((), ()), ()), ((l.1, l.2.1, l.2.2.1, ()), ()))) q 0 with ⟨k, h1, h2⟩ | ⟨h1, h2⟩
  · rw [h2] at h
    simp only [F27c29, F42c29, h, Option.bind_some, nat_nn, h1]
  · rw [h2] at h
    simp only [F27c29, F42c29, h, Option.bind_some, h1]
    rfl

/-- the numbers of the letters of which a question is true -/
def finds (ls : List Ltr) (q : List Qry) : List Int := (ls.filter fun l => q.all (ask l)).map (·.1)

def stp14 (q : List Qry) {τ : Type} (l : Ltr) (b : List Int) : List Int ⊕ τ := .inl (if q.all (ask l) then b ++ [l.1] else b)

theorem fold14 (q : List Qry) {τ : Type} (fin : List Int → τ) : ∀ (ls : List Ltr) (b : List Int), foldS (stp14 q) fin b ls = fin (b ++ finds ls q)
  | [], b => by simp [foldS, finds]
  | a :: t, b => by
    simp only [foldS, stp14]
    rw [fold14 q fin t]
    congr 1
    by_cases h : q.all (ask a) = true
    · simp only [finds, h, ↓reduceIte, List.append_assoc, List.filter_cons, List.map_cons, List.cons_append, List.nil_append]
    · simp only [finds, h, Bool.false_eq_true, ↓reduceIte, List.filter_cons]

theorem any_not (q : List Qry) (l : Ltr) : q.any (fun t => !ask l t) = !q.all (ask l) := by
  induction q with
  | nil => rfl
  | cons a t ih => rw [List.any_cons, List.all_cons, ih, Bool.not_and]

theorem L14_eq (q : List Qry) (ls : List Ltr) (hq : q.length ≤ 16) (hls : ls.length ≤ 32) (hl : ∀ l ∈ ls, l.2.2.1.length ≤ 600) (ht : ∀ t ∈ q, t.2.2.2.2.1.length ≤ maxLen) :
    L14_0 ((q, (), ls, ((ls.length : Nat) : Int), (0:Int), ()), (([]:List Int), ())) = some (((), ()), (finds ls q, ())) := by
  have hF := FUEL_big
  have h := walk_listI (f := B14_0) (fun (b : List Int) i => ((q, (), ls, ((ls.length : Nat) : Int), (i : Int), ()), (b, ()))) ls (stp14 q) (fun b => (((), ()), (b, ()))) (fun b i => b.length ≤ i) (b := [])
    (fun b i a hI hi ha => .inl ⟨_, rfl, by
      split
      · simp only [List.length_append, List.length_cons, List.length_nil]; omega
      · omega, by
      have hm : a ∈ ls := by
        rw [← ha nol, List.getD_eq_getElem?_getD, List.getElem?_eq_getElem hi]
        exact List.getElem_mem hi
      have e := F27b_eq q a hq (hl a hm) ht
      rw [any_not] at e
      have hb : bytesOK (b.length + 1) 8 = true := bytes_ok (by omega)
      simp only [B14_0, nat_lt, nat_nn, hi, decide_true, Bool.and_true, cond_true, Int.toNat_natCast, ha, Option.bind_some]
      rw [e]
      simp only [Option.bind_some, List.length_cons, List.length_nil, Nat.zero_add, hb, cond_true]
      cases q.all (ask a)
      · simp only [Bool.not_false, Bool.not_true, cond_false, Option.bind_some, Bool.false_eq_true, ↓reduceIte, w64_nat (show i < 9223372036854775807 by omega)]
      · simp only [Bool.not_false, Bool.not_true, cond_true, Option.bind_some, ↓reduceIte, w64_nat (show i < 9223372036854775807 by omega)]⟩)
    (fun b _ => by simp only [B14_0, Int.lt_irrefl, decide_false, cond_false]) (by omega) (Nat.le_refl _)
  rw [fold14] at h
  exact h

def find (b : Box) (q : List Qry) : (Unit × Int × Unit) × (List Int × Unit) :=
  if check b ≠ 0 then (((), check b, ()), ([], ()))
  else if 16 < q.length then (((), 6, ()), ([], ()))
  else if q.any odd then (((), 14, ()), ([], ()))
  else (((), 0, ()), (finds b.2.2.2.1 q, ()))

theorem F14_eq (b : Box) (q : List Qry) (ht : ∀ t ∈ q, t.2.2.2.2.1.length ≤ maxLen) : F14 ((b, q, ()), ()) = some (find b q) := by
  have e16 := F16_eq b
  have ez := check_zero (b := b)
  obtain ⟨nm, v, n, ls, u⟩ := b
  cases u
  unfold find
  simp only [F14, e16, Option.bind_some]
  generalize hc : check (nm, v, n, ls, ()) = c at *
  by_cases h0 : c = 0
  · have R := ez.mp h0
    simp only [h0, ne_eq, not_true_eq_false, ↓reduceIte, decide_true, Bool.not_true, cond_false]
    by_cases hq : 16 < q.length
    · have : (16 : Int) < (q.length : Int) := by omega
      simp only [hq, this, decide_true, cond_true, ↓reduceIte]
    · have : ¬ (16 : Int) < (q.length : Int) := by omega
      simp only [hq, this, decide_false, cond_false, ↓reduceIte, F27a_eq q (by omega), Option.bind_some]
      cases q.any odd
      · simp only [cond_false, L14_eq q ls (by omega) R.few (fun l hl => (R.each l hl).2.2.2) ht, Option.bind_some, Bool.false_eq_true, ↓reduceIte]
      · rfl
  · simp only [h0, ne_eq, not_false_eq_true, decide_false, Bool.not_false, cond_true, ↓reduceIte]

/-! the reference -/
abbrev R15 : Type := (((List Qry) × Unit × Unit) × (Box × Unit)) ⊕ ((Unit × Unit × Unit) × ((List Int) × Unit))

theorem L15a_eq (b : Box) (q : List Qry) (hq : q.length ≤ 16) : L15_0 ((q, (), (0:Int), ()), (b, ())) = some (if q.any odd then .inr (((), (), ()), ([], ())) else .inl ((q, (), ()), (b, ()))) := by
  obtain ⟨nm, v, n, ls, u⟩ := b
  cases u
  have hF := FUEL_big
  have h : L15_0 ((q, (), (0:Int), ()), ((nm, v, n, ls, ()), ())) = some (foldS (fun a (b : Nat) => if odd a = true then (.inr (.inr (((), (), ()), (([]:List Int), ()))) : Nat ⊕ R15) else .inl (b + 1)) (fun _ => .inl ((q, (), ()), ((nm, v, n, ls, ()), ()))) 0 q) := by
    refine walk_listI (f := B15_0) (fun (_ : Nat) i => ((q, (), (i : Int), ()), ((nm, v, n, ls, ()), ()))) q _ _ (fun b i => b = i) (b := 0)
      (fun b i a hI hi ha => ?_) (fun b _ => ?_) (by omega) rfl
    · subst hI
      simp only [B15_0, nat_lt, nat_nn, hi, decide_true, Bool.and_true, Bool.true_or, cond_true, Int.toNat_natCast, ha]
      change (∃ c, (if odd a = true then _ else _) = _ ∧ _ ∧ (cond (odd a) _ _) = _) ∨ (∃ r, (if odd a = true then _ else _) = _ ∧ (cond (odd a) _ _) = _)
      cases odd a
      · exact .inl ⟨_, rfl, rfl, by simp only [cond_false, w64_nat (show b < 9223372036854775807 by omega)]⟩
      · exact .inr ⟨_, rfl, rfl⟩
    · simp only [B15_0, Int.lt_irrefl, decide_false, cond_false]
  rcases foldS_any odd (fun _ => (.inr (((), (), ()), (([]:List Int), ())) : R15)) (.inl ((q, (), ()), ((nm, v, n, ls, ()), ()))) q 0 with ⟨k, h1, h2⟩ | ⟨h1, h2⟩
  · rw [h2] at h
    rw [h, h1]; rfl
  · rw [h2] at h
    rw [h, h1]; rfl

theorem and_flags (w f : UInt8) : decide (w ||| f = w) = decide (w &&& f = f) := by
  rw [decide_eq_decide]
  constructor
  · intro h
    rw [← h, UInt8.and_comm]
    exact UInt8.eq_of_toBitVec_eq (BitVec.eq_of_getElem_eq fun i hi => by simp; intro h1; exact .inr h1)
  · intro h
    rw [← h]
    exact UInt8.eq_of_toBitVec_eq (BitVec.eq_of_getElem_eq fun i hi => by simp; intro h1 _; exact h1)

theorem fold15 {τ : Type} (l : Ltr) (fin : Bool → τ) : ∀ (q : List Qry) (b : Bool), foldS (fun t b => (.inl (b && ask l t) : Bool ⊕ τ)) fin b q = fin (b && q.all (ask l))
  | [], b => by simp [foldS]
  | a :: t, b => by
    simp only [foldS]
    rw [fold15 l fin t, List.all_cons, Bool.and_assoc]

theorem L15c_eq (b : Box) (q : List Qry) (l : Ltr) (out : List Int) (i : Int) (hq : q.length ≤ 16) (hl : l.2.2.1.length ≤ 600) (ht : ∀ t ∈ q, t.2.2.2.2.1.length ≤ maxLen) :
    L15_2 ((q, (), (), i, (), true, (0:Int), ()), (b, out, (l.1, l.2.1, l.2.2.1, ()), ())) = some ((q, (), (), i, (), q.all (ask l), ()), (b, out, (l.1, l.2.1, l.2.2.1, ()), ())) := by
  obtain ⟨nm, v, n, ls, u⟩ := b
  cases u
  have hF := FUEL_big
  have hmx : maxLen = 9223372036854775807 := rfl
  have h := walk_list (f := B15_2) (fun (b : Bool) k => ((q, (), (), i, (), b, (k : Int), ()), ((nm, v, n, ls, ()), out, (l.1, l.2.1, l.2.2.1, ()), ()))) q (fun t b => .inl (b && ask l t)) (fun b => ((q, (), (), i, (), b, ()), ((nm, v, n, ls, ()), out, (l.1, l.2.1, l.2.2.1, ()), ()))) (b := true)
    (fun b k a hk ha => by
      have hm : a ∈ q := by
        rw [← ha (0, 0, 0, 0, [], ()), List.getD_eq_getElem?_getD, List.getElem?_eq_getElem hk]
        exact List.getElem_mem hk
      have e1 := F32_eq l.2.2.1 (by omega)
      have e2 := F32_eq a.2.2.2.2.1 (ht a hm)
      have e3 := F31_eq (l.2.2.1.map lowc) (a.2.2.2.2.1.map lowc) (by rw [List.length_map]; exact hl) (by rw [List.length_map]; exact ht a hm)
      simp only [B15_2, nat_lt, nat_nn, hk, decide_true, Bool.and_true, cond_true, Int.toNat_natCast, ha, Option.bind_some, e1, e2, e3, and_flags, w64_nat (show k < 9223372036854775807 by omega)]
      unfold ask
      by_cases h2 : a.1 = 2
      · simp only [h2, decide_true, cond_true, Option.bind_some, w64_nat (show k < 9223372036854775807 by omega), ↓reduceIte]
      · by_cases h3 : a.1 = 3
        · simp only [h3, decide_true, decide_false, cond_true, cond_false, Option.bind_some, w64_nat (show k < 9223372036854775807 by omega), ↓reduceIte, show ¬ ((3 : Int) = 2) by decide]
        · by_cases h4 : a.1 = 4
          · simp only [h4, decide_true, decide_false, cond_true, cond_false, Option.bind_some, w64_nat (show k < 9223372036854775807 by omega), ↓reduceIte, show ¬ ((4 : Int) = 2) by decide, show ¬ ((4 : Int) = 3) by decide]
          · by_cases h5 : a.1 = 5
            · simp only [h5, decide_true, decide_false, cond_true, cond_false, Option.bind_some, w64_nat (show k < 9223372036854775807 by omega), ↓reduceIte, show ¬ ((5 : Int) = 2) by decide, show ¬ ((5 : Int) = 3) by decide, show ¬ ((5 : Int) = 4) by decide]
            · by_cases h6 : a.1 = 6
              · simp only [h6, decide_true, decide_false, cond_true, cond_false, Option.bind_some, w64_nat (show k < 9223372036854775807 by omega), ↓reduceIte, show ¬ ((6 : Int) = 2) by decide, show ¬ ((6 : Int) = 3) by decide, show ¬ ((6 : Int) = 4) by decide, show ¬ ((6 : Int) = 5) by decide]
              · by_cases h7 : a.1 = 7
                · simp only [h7, decide_true, decide_false, cond_true, cond_false, Option.bind_some, w64_nat (show k < 9223372036854775807 by omega), ↓reduceIte, show ¬ ((7 : Int) = 2) by decide, show ¬ ((7 : Int) = 3) by decide, show ¬ ((7 : Int) = 4) by decide, show ¬ ((7 : Int) = 5) by decide, show ¬ ((7 : Int) = 6) by decide]
                · simp only [h2, h3, h4, h5, h6, h7, decide_false, cond_false, Option.bind_some, w64_nat (show k < 9223372036854775807 by omega), ↓reduceIte])
    (fun b => by simp only [B15_2, Int.lt_irrefl, decide_false, cond_false]) (by omega)
  rw [fold15] at h
  exact h

theorem L15b_eq (b : Box) (q : List Qry) (hq : q.length ≤ 16) (hls : b.2.2.2.1.length ≤ 32) (hl : ∀ l ∈ b.2.2.2.1, l.2.2.1.length ≤ 600) (ht : ∀ t ∈ q, t.2.2.2.2.1.length ≤ maxLen) :
    L15_1 ((q, (), (), (0:Int), ()), (b, ([]:List Int), ())) = some (((), ()), (finds b.2.2.2.1 q, ())) := by
  obtain ⟨nm, v, n, ls, u⟩ := b
  cases u
  have hF := FUEL_big
  change ls.length ≤ 32 at hls
  change ∀ l ∈ ls, l.2.2.1.length ≤ 600 at hl
  have h := walk_listI (f := B15_1) (fun (b : List Int) i => ((q, (), (), (i : Int), ()), ((nm, v, n, ls, ()), b, ()))) ls (stp14 q) (fun b => (((), ()), (b, ()))) (fun b i => b.length ≤ i) (b := [])
    (fun b i a hI hi ha => .inl ⟨_, rfl, by
      split
      · simp only [List.length_append, List.length_cons, List.length_nil]; omega
      · omega, by
      have hm : a ∈ ls := by
        rw [← ha nol, List.getD_eq_getElem?_getD, List.getElem?_eq_getElem hi]
        exact List.getElem_mem hi
      have e := L15c_eq (nm, v, n, ls, ()) q a b (i : Int) hq (hl a hm) ht
      have hb : bytesOK (b.length + 1) 8 = true := bytes_ok (by omega)
      simp only [B15_1, nat_lt, nat_nn, hi, decide_true, Bool.and_true, cond_true, Int.toNat_natCast, ha, Option.bind_some]
      rw [e]
      simp only [Option.bind_some, List.length_cons, List.length_nil, Nat.zero_add, hb, cond_true]
      cases q.all (ask a)
      · simp only [cond_false, Option.bind_some, Bool.false_eq_true, ↓reduceIte, w64_nat (show i < 9223372036854775807 by omega)]
      · simp only [cond_true, Option.bind_some, ↓reduceIte, w64_nat (show i < 9223372036854775807 by omega)]⟩)
    (fun b _ => by simp only [B15_1, Int.lt_irrefl, decide_false, cond_false]) (by omega) (Nat.le_refl _)
  rw [fold14] at h
  exact h

theorem F15_eq (b : Box) (q : List Qry) (ht : ∀ t ∈ q, t.2.2.2.2.1.length ≤ maxLen) : F15 ((b, q, ()), ()) = some (find b q) := by
  have e17 := F17_eq b
  have ez := check_zero (b := b)
  have e1 := L15a_eq b q
  have e2 := L15b_eq b q
  obtain ⟨nm, v, n, ls, u⟩ := b
  cases u
  unfold find
  simp only [F15, e17, Option.bind_some]
  generalize hc : check (nm, v, n, ls, ()) = c at *
  by_cases h0 : c = 0
  · have R := ez.mp h0
    simp only [h0, ne_eq, not_true_eq_false, ↓reduceIte, decide_true, Bool.not_true, cond_false]
    by_cases hq : 16 < q.length
    · have : (16 : Int) < (q.length : Int) := by omega
      simp only [hq, this, decide_true, cond_true, ↓reduceIte]
    · have : ¬ (16 : Int) < (q.length : Int) := by omega
      simp only [hq, this, decide_false, cond_false, ↓reduceIte, e1 (by omega), Option.bind_some]
      cases q.any odd
      · simp only [Option.bind_some, Bool.false_eq_true, ↓reduceIte, e2 (by omega) R.few (fun l hl => (R.each l hl).2.2.2) ht]
      · rfl
  · simp only [h0, ne_eq, not_false_eq_true, decide_false, Bool.not_false, cond_true, ↓reduceIte]

theorem finds_len (ls : List Ltr) (q : List Qry) : (finds ls q).length ≤ ls.length := by
  simp only [finds, List.length_map]
  exact List.length_filter_le _ _

theorem find_len (b : Box) (q : List Qry) : (find b q).2.1.length ≤ 32 := by
  unfold find
  split
  · exact Nat.zero_le _
  · rename_i h0
    have R := check_zero.mp (Classical.not_not.mp h0)
    split
    · exact Nat.zero_le _
    · split
      · exact Nat.zero_le _
      · exact Nat.le_trans (finds_len _ _) R.few

theorem L4_eq (s : List Int) (hs : s.length ≤ 32) : L4_0 (((), (), (0:Int), ()), (s, s, ())) = some (.inl ((), ())) := by
  have hF := FUEL_big
  have h := walk_list (f := B4_0) (fun (_ : Unit) i => (((), (), (i : Int), ()), (s, s, ()))) s (fun _ _ => .inl ()) (fun _ => .inl ((), ())) (b := ()) (fun b i a hi ha => by
      simp only [B4_0, nat_lt, nat_nn, hi, decide_true, Bool.and_true, cond_true, Int.toNat_natCast, ha, Bool.not_true, cond_false, w64_nat (show i < 9223372036854775807 by omega)])
    (fun b => by simp only [B4_0, Int.lt_irrefl, decide_false, cond_false]) (by omega)
  rw [foldS_const] at h
  exact h

theorem law4 (b : Box) (q : List Qry) (ht : ∀ t ∈ q, t.2.2.2.2.1.length ≤ maxLen) : F4 ((b, q, ()), ()) = some (true, ()) := by
  have e14 := F14_eq b q ht
  have e15 := F15_eq b q ht
  have hl := find_len b q
  generalize find b q = r at *
  obtain ⟨⟨u1, e, u2⟩, s, u3⟩ := r
  obtain ⟨nm, v, n, ls, u⟩ := b
  cases u; cases u1; cases u2; cases u3
  simp only [F4, e14, e15, Option.bind_some, decide_true, Bool.not_true, Bool.or_self, cond_false, L4_eq s hl, live12]

end Go.Bx
