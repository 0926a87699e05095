/- The law HeadIdents. -/
import Derived.Test.YtppghnjcgliekaaDoorHd2
import Derived.Lib.IndexBytes
namespace Go.Hd
open Go Go.Ev
set_option maxRecDepth 100000

def has (l : List UInt8) (c : UInt8) : Bool := l.any fun b => b == c

/-- where a byte is first -/
def fst (c : UInt8) : List UInt8 → Option Nat
  | [] => none
  | b :: t => if b = c then some 0 else (fst c t).map (· + 1)

theorem indexByte_fst (c : UInt8) : ∀ l : List UInt8, Go.Lib.indexByte l c = match fst c l with | none => -1 | some k => (k : Int)
  | [] => rfl
  | b :: t => by
    have ih := indexByte_fst c t
    unfold Go.Lib.indexByte fst
    by_cases h : b = c
    · subst h
      simp
    · have h1 : ¬ (b == c) = true := fun e => h (eq_of_beq e)
      rw [if_neg h1, if_neg h, ih]
      cases fst c t with
      | none => rfl
      | some k =>
        have : ¬ (((k : Int)) == -1) = true := by
          intro e
          have := eq_of_beq e
          omega
        simp only [this, Option.map_some]
        rfl

theorem fst_has (c : UInt8) : ∀ l : List UInt8, has l c = (fst c l).isSome
  | [] => rfl
  | b :: t => by
    have ih := fst_has c t
    unfold has at *
    unfold fst
    rw [List.any_cons]
    by_cases h : b = c
    · subst h; simp
    · have h1 : (b == c) = false := by simpa using h
      rw [h1, if_neg h, Bool.false_or, ih, Option.isSome_map]

theorem fst_lt (c : UInt8) : ∀ (l : List UInt8) (k : Nat), fst c l = some k → k < l.length
  | [], _, h => by cases h
  | b :: t, k, h => by
    unfold fst at h
    by_cases hb : b = c
    · rw [if_pos hb] at h
      injection h with h
      subst h
      simp
    · rw [if_neg hb] at h
      cases hf : fst c t with
      | none => rw [hf] at h; cases h
      | some j =>
        rw [hf] at h
        simp only [Option.map_some, Option.some.injEq] at h
        have := fst_lt c t j hf
        simp only [List.length_cons]
        omega

theorem indexAny_any (cs : List UInt8) : ∀ l : List UInt8, decide (0 ≤ Go.Lib.indexAny l cs) = l.any (fun b => cs.contains b)
  | [] => rfl
  | b :: t => by
    have ih := indexAny_any cs t
    have hge := Go.Lib.indexAny_ge cs t
    unfold Go.Lib.indexAny
    rw [List.any_cons, ← ih]
    by_cases h : cs.contains b = true
    · rw [if_pos h, h]; rfl
    · rw [if_neg h]
      rw [Bool.not_eq_true] at h
      rw [h, Bool.false_or]
      by_cases h2 : Go.Lib.indexAny t cs = -1
      · rw [h2]; rfl
      · have h3 : ¬ (Go.Lib.indexAny t cs == -1) = true := fun e => h2 (eq_of_beq e)
        rw [if_neg h3, decide_eq_decide]
        omega

def ang (b : UInt8) : Bool := decide (b = 60) || decide (b = 62)

theorem containsAny_eq (l : List UInt8) : Go.Lib.containsAny l [60, 62] = l.any ang := by
  unfold Go.Lib.containsAny
  rw [indexAny_any]
  congr 1
  funext b
  by_cases h1 : b = 60
  · subst h1; rfl
  · by_cases h2 : b = 62
    · subst h2; rfl
    · simp [ang, h1, h2]

theorem contains_one (l : List UInt8) : Go.Lib.contains l [64] = has l 64 := by
  unfold Go.Lib.contains
  rw [Go.Lib.index_one, indexByte_fst, fst_has]
  cases fst 64 l with
  | none => rfl
  | some k => simp

/-- is what stands between the signs a name? -/
def okI (u : List UInt8) : Bool :=
  match fst 64 u with
  | none => false
  | some k => atom (u.take k) && atom (u.drop (k + 1)) && !(u.any ang) && !(has (u.drop (k + 1)) 64)

def identIn (u : List UInt8) : List UInt8 × Bool × Unit := cond (okI u) (u, true, ()) ([], false, ())

def ident (s : List UInt8) : List UInt8 × Bool × Unit :=
  if (trm s).length < 2 ∨ (trm s).getD 0 0 ≠ 60 ∨ (trm s).getD ((trm s).length - 1) 0 ≠ 62 then ([], false, ()) else identIn (((trm s).drop 1).take ((trm s).length - 2))

theorem gd_ascii {b : UInt8} (h : gd b = true) : b.toNat < 128 := by
  unfold gd at h
  simp only [Bool.and_eq_true, decide_eq_true_eq] at h
  omega

theorem atom_ascii {s : List UInt8} (h : atom s = true) : ascii s = true := by
  unfold atom at h
  rw [Bool.and_eq_true] at h
  exact List.all_eq_true.mpr fun b hb => decide_eq_true (gd_ascii (List.all_eq_true.mp h.2 b hb))

theorem split_at (c : UInt8) : ∀ (u : List UInt8) (k : Nat), fst c u = some k → u = u.take k ++ c :: u.drop (k + 1)
  | [], _, h => by cases h
  | b :: t, k, h => by
    unfold fst at h
    by_cases hb : b = c
    · rw [if_pos hb] at h
      injection h with h
      subst h
      subst hb
      rfl
    · rw [if_neg hb] at h
      cases hf : fst c t with
      | none => rw [hf] at h; cases h
      | some j =>
        rw [hf] at h
        simp only [Option.map_some, Option.some.injEq] at h
        subst h
        have ih := split_at c t j hf
        rw [List.take_succ_cons, List.drop_succ_cons, List.cons_append, ← ih]

theorem cut_eq (u : List UInt8) : Go.Lib.cut u [64] = match fst 64 u with
    | none => (u, [], false)
    | some k => (u.take k, u.drop (k + 1), true) := by
  unfold Go.Lib.cut
  rw [Go.Lib.index_one, indexByte_fst]
  cases fst 64 u with
  | none => rfl
  | some k =>
    have : (0:Int) ≤ (k : Int) := by omega
    simp only [this, ↓reduceIte, Int.toNat_natCast]
    rfl

theorem edges {t : List UInt8} (ht : t.length ≤ 1100000) (h2 : 2 ≤ t.length) : w64 (((t.length : Nat) : Int) - 1) = ((t.length - 1 : Nat) : Int) := by
  rw [w64_id (by omega) (by omega)]; omega

theorem F17_eq (s : List UInt8) (hs : s.length ≤ 1100000) : F17 ((s, ()), ()) = some (ident s, ()) := by
  have hl := trm_len s
  have e36 := F36_eq s (by omega)
  unfold ident
  simp only [F17, e36, Option.bind_some]
  generalize trm s = t at *
  have c0 : (decide ((0:Int) < ((t.length : Nat) : Int)) || decide (((t.length : Nat) : Int) < 2)) = true := by
    rw [Bool.or_eq_true, decide_eq_true_eq, decide_eq_true_eq]; omega
  rw [c0]
  simp only [cond_true]
  by_cases h1 : t.length < 2
  · have d1 : decide (((t.length : Nat) : Int) < 2) = true := by rw [decide_eq_true_eq]; omega
    simp only [d1, h1, Bool.true_or, Bool.or_true, cond_true, true_or, ↓reduceIte]
  · have d1 : decide (((t.length : Nat) : Int) < 2) = false := by rw [decide_eq_false_iff_not]; omega
    have hw := edges (t := t) (by omega) (by omega)
    have hlt : t.length - 1 < t.length := by omega
    simp only [d1, hw, nat_nn, nat_lt, hlt, decide_true, Bool.and_self, Bool.true_or, Bool.false_or, cond_true, Int.toNat_natCast]
    by_cases h2 : t.getD 0 0 = 60
    · by_cases h3 : t.getD (t.length - 1) 0 = 62
      · have d4 : decide ((1:Int) ≤ ((t.length - 1 : Nat) : Int)) = true := by rw [decide_eq_true_eq]; omega
        have d5 : decide (((t.length - 1 : Nat) : Int) ≤ ((t.length : Nat) : Int)) = true := by rw [decide_eq_true_eq]; omega
        have hc : ¬ (t.length < 2 ∨ t.getD 0 0 ≠ 60 ∨ t.getD (t.length - 1) 0 ≠ 62) := by
          rintro (h | h | h)
          · exact h1 h
          · exact h h2
          · exact h h3
        rw [if_neg hc]
        have hu : List.take (t.length - 1 - 1) (List.drop 1 t) = List.take (t.length - 2) (List.drop 1 t) := by
          rw [show t.length - 1 - 1 = t.length - 2 by omega]
        simp only [h2, h3, d4, d5, decide_true, Bool.not_true, Bool.or_self, cond_false, cond_true, Bool.and_self, Option.bind_some, hu]
        have hul : (List.take (t.length - 2) (List.drop 1 t)).length ≤ 1100000 := by
          rw [List.length_take, List.length_drop]; omega
        generalize List.take (t.length - 2) (List.drop 1 t) = u at *
        have d6 : decide (u.length < 4294967281) = true := by rw [decide_eq_true_eq]; omega
        simp only [d6, cond_true, Option.bind_some, cut_eq]
        unfold identIn okI
        cases hf : fst 64 u with
        | none => simp
        | some k =>
          have hk := fst_lt 64 u k hf
          have e1 := F38_eq (u.take k) (by rw [List.length_take]; omega)
          have e2 := F38_eq (u.drop (k + 1)) (by rw [List.length_drop]; omega)
          simp only [Bool.not_true, Bool.not_false, cond_true, e1, Option.bind_some]
          cases ha : atom (u.take k)
          · simp
          · simp only [Bool.not_true, Bool.not_false, cond_true, e2, Option.bind_some]
            cases hb : atom (u.drop (k + 1))
            · simp
            · have hasc : ascii u = true := by
                rw [split_at 64 u k hf]
                unfold ascii
                rw [List.all_append, List.all_cons]
                have h1 := atom_ascii ha
                have h2 := atom_ascii hb
                unfold ascii at h1 h2
                rw [h1, h2]
                rfl
              have d7 : decide ((u.drop (k + 1)).length < 4294967281) = true := by rw [decide_eq_true_eq, List.length_drop]; omega
              simp only [Bool.not_true, Bool.not_false, cond_true, hasc, Bool.and_self, containsAny_eq, contains_one, Option.bind_some, d7]
              cases u.any ang
              · cases has (u.drop (k + 1)) 64 <;> simp
              · simp
      · have hc : t.length < 2 ∨ t.getD 0 0 ≠ 60 ∨ t.getD (t.length - 1) 0 ≠ 62 := .inr (.inr h3)
        rw [if_pos hc]
        simp only [h2, h3, decide_true, decide_false, Bool.not_true, Bool.not_false, Bool.or_true, cond_true]
    · have hc : t.length < 2 ∨ t.getD 0 0 ≠ 60 ∨ t.getD (t.length - 1) 0 ≠ 62 := .inr (.inl h2)
      rw [if_pos hc]
      simp only [h2, decide_false, Bool.not_false, Bool.true_or, cond_true]

abbrev R18 : Type := ((List UInt8 × Int × Unit) × Unit) ⊕ ((Unit × Unit × Unit) × Unit)

def stp18 (a : UInt8) (b : Int × Nat) : (Int × Nat) ⊕ R18 :=
  if ang a || (decide (a = 64) && decide (0 ≤ b.1)) then .inr (.inr (((), (), ()), ())) else if a = 64 then .inl ((b.2 : Int), b.2 + 1) else .inl (b.1, b.2 + 1)

theorem fold18 (u : List UInt8) : ∀ (l : List UInt8) (b : Int × Nat), 0 ≤ b.1 → foldS stp18 (fun b => (.inl ((u, b.1, ()), ()) : R18)) b l = cond (l.any ang || has l 64) (.inr (((), (), ()), ())) (.inl ((u, b.1, ()), ()))
  | [], b, _ => by simp [foldS, has]
  | a :: t, b, h => by
    simp only [foldS, stp18, List.any_cons, has]
    have hd : decide (0 ≤ b.1) = true := decide_eq_true h
    have hu : (a == 64) = decide (a = 64) := by
      by_cases e : a = 64
      · subst e; rfl
      · have : (a == 64) = false := by simpa using e
        rw [this, decide_eq_false e]
    rw [hd, Bool.and_true, hu]
    by_cases h1 : ang a = true
    · simp [h1]
    · rw [Bool.not_eq_true] at h1
      by_cases h2 : a = 64
      · simp [h1, h2]
      · simp only [h1, h2, decide_false, Bool.or_self, Bool.false_eq_true, ↓reduceIte, Bool.false_or]
        have := fold18 u t (b.1, b.2 + 1) h
        unfold has at this
        exact this

theorem fold18' (u : List UInt8) : ∀ (l : List UInt8) (k : Nat), foldS stp18 (fun b => (.inl ((u, b.1, ()), ()) : R18)) (-1, k) l = cond (l.any ang) (.inr (((), (), ()), ())) (match fst 64 l with
    | none => .inl ((u, -1, ()), ())
    | some j => cond (has (l.drop (j + 1)) 64) (.inr (((), (), ()), ())) (.inl ((u, ((k + j : Nat) : Int), ()), ())))
  | [], k => rfl
  | a :: t, k => by
    simp only [foldS, stp18, List.any_cons]
    have hd : decide ((0:Int) ≤ -1) = false := rfl
    rw [hd, Bool.and_false, Bool.or_false]
    unfold fst
    by_cases h1 : ang a = true
    · simp [h1]
    · rw [Bool.not_eq_true] at h1
      by_cases h2 : a = 64
      · have := fold18 u t ((k : Int), k + 1) (by simp only; omega)
        rw [h1]
        simp only [h2, show ang 64 = false from rfl, Bool.false_eq_true, ↓reduceIte, Bool.false_or, List.drop_succ_cons, List.drop_zero, Nat.add_zero]
        rw [this]
        cases t.any ang <;> cases has t 64 <;> simp
      · have ih := fold18' u t (k + 1)
        simp only [h1, h2, Bool.false_eq_true, ↓reduceIte, Bool.false_or]
        rw [ih]
        cases fst 64 t with
        | none => rfl
        | some j =>
          simp only [Option.map_some, List.drop_succ_cons]
          rw [show k + 1 + j = k + (j + 1) by omega]

theorem L18_eq (u : List UInt8) (hu : u.length ≤ 1100000) : L18_0 ((u, (-1:Int), (0:Int), ()), ()) = some (foldS stp18 (fun b => (.inl ((u, b.1, ()), ()) : R18)) (-1, 0) u) := by
  have hF := FUEL_big
  refine walk_listI (f := B18_0) (fun (b : Int × Nat) i => ((u, b.1, (i : Int), ()), ())) u stp18 _ (fun b i => b.2 = i) (b := (-1, 0))
    (fun b i a hI hi ha => ?_) (fun b _ => ?_) (by omega) rfl
  · obtain ⟨at', k⟩ := b
    simp only at hI
    subst hI
    simp only [B18_0, nat_lt, nat_nn, hi, decide_true, Bool.and_self, Bool.true_or, cond_true, Int.toNat_natCast, ha]
    unfold stp18
    change (∃ c, (if (ang a || (decide (a = 64) && decide (0 ≤ at'))) = true then _ else _) = _ ∧ _ ∧ Option.bind (cond (ang a || (decide (a = 64) && decide (0 ≤ at'))) _ _) _ = _) ∨ (∃ r, (if (ang a || (decide (a = 64) && decide (0 ≤ at'))) = true then _ else _) = _ ∧ Option.bind (cond (ang a || (decide (a = 64) && decide (0 ≤ at'))) _ _) _ = _)
    cases (ang a || (decide (a = 64) && decide (0 ≤ at')))
    · left
      by_cases h : a = 64
      · refine ⟨((k : Int), k + 1), by simp [h], rfl, ?_⟩
        simp only [h, decide_true, cond_false, cond_true, Option.bind_some, w64_nat (show k < 9223372036854775807 by omega)]
      · refine ⟨(at', k + 1), by simp [h], rfl, ?_⟩
        simp only [h, decide_false, cond_false, Option.bind_some, w64_nat (show k < 9223372036854775807 by omega)]
    · exact .inr ⟨_, rfl, rfl⟩
  · simp only [B18_0, Int.lt_irrefl, decide_false, cond_false]

theorem F18_eq (s : List UInt8) (hs : s.length ≤ 1100000) : F18 ((s, ()), ()) = some (ident s, ()) := by
  have hl := trm_len s
  have e32 := F32_eq s hs
  unfold ident
  simp only [F18, e32, Option.bind_some]
  generalize trm s = t at *
  have c0 : (decide ((0:Int) < ((t.length : Nat) : Int)) || decide (((t.length : Nat) : Int) < 2)) = true := by
    rw [Bool.or_eq_true, decide_eq_true_eq, decide_eq_true_eq]; omega
  rw [c0]
  simp only [cond_true]
  by_cases h1 : t.length < 2
  · have d1 : decide (((t.length : Nat) : Int) < 2) = true := by rw [decide_eq_true_eq]; omega
    simp only [d1, h1, Bool.true_or, Bool.or_true, cond_true, true_or, ↓reduceIte]
  · have d1 : decide (((t.length : Nat) : Int) < 2) = false := by rw [decide_eq_false_iff_not]; omega
    have hw := edges (t := t) (by omega) (by omega)
    have hlt : t.length - 1 < t.length := by omega
    simp only [d1, hw, nat_nn, nat_lt, hlt, decide_true, Bool.and_self, Bool.true_or, Bool.false_or, cond_true, Int.toNat_natCast]
    by_cases h2 : t.getD 0 0 = 60
    · by_cases h3 : t.getD (t.length - 1) 0 = 62
      · have d4 : decide ((1:Int) ≤ ((t.length - 1 : Nat) : Int)) = true := by rw [decide_eq_true_eq]; omega
        have d5 : decide (((t.length - 1 : Nat) : Int) ≤ ((t.length : Nat) : Int)) = true := by rw [decide_eq_true_eq]; omega
        have hc : ¬ (t.length < 2 ∨ t.getD 0 0 ≠ 60 ∨ t.getD (t.length - 1) 0 ≠ 62) := by
          rintro (h | h | h)
          · exact h1 h
          · exact h h2
          · exact h h3
        rw [if_neg hc]
        have hu : List.take (t.length - 1 - 1) (List.drop 1 t) = List.take (t.length - 2) (List.drop 1 t) := by
          rw [show t.length - 1 - 1 = t.length - 2 by omega]
        simp only [h2, h3, d4, d5, decide_true, Bool.not_true, Bool.or_self, cond_false, cond_true, Bool.and_self, Option.bind_some, hu]
        have hul : (List.take (t.length - 2) (List.drop 1 t)).length ≤ 1100000 := by
          rw [List.length_take, List.length_drop]; omega
        generalize List.take (t.length - 2) (List.drop 1 t) = u at *
        have e18 := L18_eq u hul
        rw [fold18'] at e18
        rw [e18]
        unfold identIn okI
        by_cases hg : u.any ang = true
        · rw [hg]
          cases fst 64 u <;> simp
        · rw [Bool.not_eq_true] at hg
          rw [hg]
          simp only [cond_false]
          cases hf : fst 64 u with
          | none =>
            simp only [Option.bind_some]
            rfl
          | some k =>
            simp only
            have hk := fst_lt 64 u k hf
            by_cases hh : has (u.drop (k + 1)) 64 = true
            · rw [hh]
              simp
            · rw [Bool.not_eq_true] at hh
              rw [hh]
              simp only [cond_false]
              have e1 := F41_eq (u.take k) (by rw [List.length_take]; omega)
              have e2 := F41_eq (u.drop (k + 1)) (by rw [List.length_drop]; omega)
              have d6 : decide ((((0 + k : Nat)) : Int) ≤ ((u.length : Nat) : Int)) = true := by rw [decide_eq_true_eq]; omega
              have d7 : decide ((((0 + k : Nat)) : Int) < 0) = false := by rw [decide_eq_false_iff_not]; omega
              have d8 : decide (((k + 1 : Nat) : Int) ≤ ((u.length : Nat) : Int)) = true := by rw [decide_eq_true_eq]; omega
              have hw2 : w64 ((((0 + k : Nat)) : Int) + 1) = ((k + 1 : Nat) : Int) := by rw [Nat.zero_add]; exact w64_nat (by omega)
              have ht : List.take (u.length - (k + 1)) (List.drop (k + 1) u) = List.drop (k + 1) u := List.take_of_length_le (by rw [List.length_drop]; omega)
              simp only [Option.bind_some, nat_nn, d6, d7, d8, hw2, Bool.and_self, Bool.true_or, Bool.not_false, cond_true, Int.toNat_natCast, Int.le_refl, decide_true, ht]
              simp only [Nat.zero_add, e1, Option.bind_some, Bool.true_or, cond_true]
              cases ha : atom (u.take k)
              · simp
              · simp only [Bool.not_true, Bool.not_false, cond_true, e2, Option.bind_some]
                cases hb : atom (u.drop (k + 1)) <;> simp
      · have hc : t.length < 2 ∨ t.getD 0 0 ≠ 60 ∨ t.getD (t.length - 1) 0 ≠ 62 := .inr (.inr h3)
        rw [if_pos hc]
        simp only [h2, h3, decide_true, decide_false, Bool.not_true, Bool.not_false, Bool.or_true, cond_true]
    · have hc : t.length < 2 ∨ t.getD 0 0 ≠ 60 ∨ t.getD (t.length - 1) 0 ≠ 62 := .inr (.inl h2)
      rw [if_pos hc]
      simp only [h2, decide_false, Bool.not_false, Bool.true_or, cond_true]

theorem law6 (s : List UInt8) (hs : s.length ≤ 1100000) : F6 ((s, ()), ()) = some (true, ()) := by
  have e17 := F17_eq s hs
  have e18 := F18_eq s hs
  generalize ident s = r at *
  obtain ⟨a, b, u⟩ := r
  cases u
  simp only [F6, F6a, e17, e18, live12, Option.bind_some, decide_true, BEq.rfl, Bool.and_self]

end Go.Hd
