/- Boxes: questions; the law BoxFinds. -/
import Derived.Test.YtbnmcdcpendjjaaBx7
namespace Go.Bx
open Go Go.Ev
set_option maxRecDepth 100000

abbrev Qry : Type := Int × (UInt8 × (Int × (Int × (List UInt8 × Unit))))

def lowc (c : UInt8) : UInt8 := if 65 ≤ c.toNat ∧ c.toNat ≤ 90 then c + 32 else c

theorem append_set {α : Type} : ∀ (a t : List α) (x y : α), (a ++ x :: t).set a.length y = a ++ y :: t
  | [], _, _, _ => rfl
  | b :: a, t, x, y => by
    simp only [List.cons_append, List.length_cons, List.set_cons_succ, append_set a t x y]

theorem drop_cons {α : Type} {s : List α} {i : Nat} {a : α} (hi : i < s.length) (ha : ∀ d, s.getD i d = a) : s.drop i = a :: s.drop (i + 1) := by
  rw [List.drop_eq_getElem_cons hi]
  have := ha s[i]
  rw [List.getD_eq_getElem?_getD, List.getElem?_eq_getElem hi] at this
  rw [show s[i] = a from this]

theorem foldS_push {α β τ : Type} (g : α → β) (fin : List β → τ) : ∀ (s : List α) (b : List β), foldS (fun a b => (.inl (b ++ [g a]) : List β ⊕ τ)) fin b s = fin (b ++ s.map g)
  | [], b => by simp [foldS]
  | a :: t, b => by
    simp only [foldS]
    rw [foldS_push g fin t]
    simp

theorem F44_eq (s : List UInt8) (hs : s.length ≤ maxLen) : F44 ((s, ()), ()) = some (s.map lowc, ()) := by
  have hF : maxLen < FUEL := by unfold maxLen FUEL; omega
  have hm : maxLen = 9223372036854775807 := rfl
  have h := walk_listI (f := B44_0) (fun (b : List UInt8) i => (((), (), ((s.length : Nat) : Int), (i : Int), ()), (b ++ s.drop i, ()))) s (fun a b => .inl (b ++ [lowc a])) (fun b => (((), ()), (b, ()))) (fun b i => b.length = i) (b := [])
    (fun b i a hI hi ha => .inl ⟨_, rfl, by rw [List.length_append, hI]; rfl, by
      subst hI
      have hd := drop_cons hi ha
      have hlt : b.length < (b ++ s.drop b.length).length := by rw [hd]; simp
      have hg : (b ++ s.drop b.length).getD b.length 0 = a := by
        rw [hd, List.getD_eq_getElem?_getD, List.getElem?_append_right (Nat.le_refl _)]
        simp
      have hset : (b ++ s.drop b.length).set b.length (a + 32) = b ++ [a + 32] ++ s.drop (b.length + 1) := by
        rw [hd, append_set]; simp
      have hkeep : b ++ s.drop b.length = b ++ [a] ++ s.drop (b.length + 1) := by
        rw [hd]; simp
      simp only [B44_0, nat_lt, nat_nn, hi, hlt, decide_true, Bool.and_true, cond_true, Int.toNat_natCast, hg, hset, w64_nat (show b.length < 9223372036854775807 by omega), show UInt8.toNat 65 = 65 from rfl, show UInt8.toNat 90 = 90 from rfl]
      unfold lowc
      by_cases h1 : 65 ≤ a.toNat
      · by_cases h2 : a.toNat ≤ 90
        · simp only [h1, h2, decide_true, Bool.and_self, cond_true, Option.bind_some, and_self, ↓reduceIte, w64_nat (show b.length < 9223372036854775807 by omega)]
        · simp only [h1, h2, decide_true, decide_false, Bool.and_false, cond_false, Option.bind_some, and_false, ↓reduceIte, ← hkeep, w64_nat (show b.length < 9223372036854775807 by omega)]
      · simp only [h1, decide_false, Bool.false_and, cond_false, Option.bind_some, false_and, ↓reduceIte, ← hkeep, w64_nat (show b.length < 9223372036854775807 by omega)]⟩)
    (fun b _ => by simp only [B44_0, Int.lt_irrefl, decide_false, cond_false, List.drop_length, List.append_nil]) (by omega) rfl
  rw [foldS_push] at h
  have h' : L44_0 (((), (), ((s.length : Nat) : Int), (0:Int), ()), (s, ())) = some (((), ()), (s.map lowc, ())) := h
  simp only [F44, h', Option.bind_some]

theorem F32_eq (s : List UInt8) (hs : s.length ≤ maxLen) : F32 ((s, ()), ()) = some (s.map lowc, ()) := by
  have hF : maxLen < FUEL := by unfold maxLen FUEL; omega
  have hm : maxLen = 9223372036854775807 := rfl
  have h := walk_listI (f := B32_0) (fun (b : List UInt8) i => ((s, b, (i : Int), ()), ())) s (fun a b => .inl (b ++ [lowc a])) (fun b => ((b, ()), ())) (fun b i => b.length = i) (b := [])
    (fun b i a hI hi ha => .inl ⟨_, rfl, by rw [List.length_append, hI]; rfl, by
      have hf : fits (b.length + 1) = true := decide_eq_true (by omega)
      simp only [B32_0, nat_lt, nat_nn, hi, decide_true, Bool.and_true, cond_true, Int.toNat_natCast, ha, List.length_cons, List.length_nil, Nat.zero_add, show UInt8.toNat 65 = 65 from rfl, show UInt8.toNat 90 = 90 from rfl]
      unfold lowc
      by_cases h1 : 65 ≤ a.toNat
      · by_cases h2 : a.toNat ≤ 90
        · simp only [h1, h2, decide_true, Bool.and_self, cond_true, Option.bind_some, and_self, ↓reduceIte, hf, w64_nat (show i < 9223372036854775807 by omega)]
        · simp only [h1, h2, decide_true, decide_false, Bool.and_false, cond_false, cond_true, Option.bind_some, and_false, ↓reduceIte, hf, w64_nat (show i < 9223372036854775807 by omega)]
      · simp only [h1, decide_false, Bool.false_and, cond_false, cond_true, Option.bind_some, false_and, ↓reduceIte, hf, w64_nat (show i < 9223372036854775807 by omega)]⟩)
    (fun b _ => by simp only [B32_0, Int.lt_irrefl, decide_false, cond_false]) (by omega) rfl
  rw [foldS_push] at h
  have h' : L32_0 ((s, [], (0:Int), ()), ()) = some ((s.map lowc, ()), ()) := h
  simp only [F32, h', Option.bind_some]

open Go.Lib in
theorem occ_iff {s p : List UInt8} {i : Nat} : occAt s p i = true ↔ (s.drop i).take p.length = p := by
  unfold occAt
  rw [List.isPrefixOf_iff_prefix, List.prefix_iff_eq_take]
  exact eq_comm

open Go.Lib in
theorem contains_iff (s p : List UInt8) : contains s p = true ↔ ∃ i, i ≤ s.length ∧ occAt s p i = true := by
  unfold contains
  rw [decide_eq_true_eq]
  rcases index_spec s p with ⟨h1, h2⟩ | ⟨i, h1, h2, h3, _⟩
  · rw [h1]
    constructor
    · intro h; cases h
    · rintro ⟨i, hi, ho⟩
      rw [h2 i hi] at ho; cases ho
  · rw [h1]
    exact ⟨fun _ => ⟨i, h2, h3⟩, fun _ => by omega⟩

open Go.Lib in
theorem F31_eq (s p : List UInt8) (hs : s.length ≤ 600) (hp : p.length ≤ maxLen) : F31 ((s, p, ()), ()) = some (contains s p, ()) := by
  have hF := FUEL_big
  have hm : maxLen = 9223372036854775807 := rfl
  have h := loop_ind (f := B31_0) (p := ((s, p, (0:Int), ()), ()))
    (fun q => ∃ i : Nat, q = ((s, p, (i : Int), ()), ()) ∧ i ≤ 601 ∧ (i = 0 ∨ i + p.length ≤ s.length + 1) ∧ ∀ j, j < i → occAt s p j = false)
    (fun q => (1000 - q.1.2.2.1).toNat)
    (fun r => r = if contains s p then .inr (((), ()), ()) else .inl ((), ()))
    (fun q hq => by
      obtain ⟨i, rfl, h1, h2, h3⟩ := hq
      have hw : w64 ((i : Int) + (p.length : Int)) = ((i + p.length : Nat) : Int) := by
        rw [w64_id (by omega) (by omega)]; omega
      by_cases hc : i + p.length ≤ s.length
      · have e1 : decide (((i + p.length : Nat) : Int) ≤ ((s.length : Nat) : Int)) = true := by rw [decide_eq_true_eq]; omega
        have e2 : decide ((i : Int) ≤ ((i + p.length : Nat) : Int)) = true := by rw [decide_eq_true_eq]; omega
        have e3 : (i + p.length) - i = p.length := by omega
        by_cases ho : (s.drop i).take p.length = p
        · right
          have hcon : contains s p = true := (contains_iff s p).mpr ⟨i, by omega, occ_iff.mpr ho⟩
          refine ⟨_, ?_, by rw [hcon]⟩
          simp only [B31_0, hw, e1, e2, nat_nn, Bool.and_true, Bool.and_self, cond_true, Int.toNat_natCast, e3, ho, decide_true]
          rfl
        · left
          refine ⟨((s, p, ((i + 1 : Nat) : Int), ()), ()), ?_, ⟨i + 1, rfl, by omega, by omega, fun j hj => ?_⟩, by simp only; omega⟩
          · simp only [B31_0, hw, e1, e2, nat_nn, Bool.and_true, Bool.and_self, cond_true, Int.toNat_natCast, e3, ho, decide_false, cond_false, w64_nat (show i < 9223372036854775807 by omega)]
          · rcases Nat.lt_or_ge j i with hj2 | hj2
            · exact h3 j hj2
            · obtain rfl : j = i := by omega
              rw [Bool.eq_false_iff]
              exact fun hh => ho (occ_iff.mp hh)
      · right
        have e1 : decide (((i + p.length : Nat) : Int) ≤ ((s.length : Nat) : Int)) = false := by rw [decide_eq_false_iff_not]; omega
        have hcon : contains s p = false := by
          rw [Bool.eq_false_iff]
          intro hh
          obtain ⟨j, hj, ho⟩ := (contains_iff s p).mp hh
          rcases Nat.lt_or_ge j i with hj2 | hj2
          · rw [h3 j hj2] at ho; cases ho
          · have q := occ_iff.mp ho
            have := congrArg List.length q
            rw [List.length_take, List.length_drop] at this
            omega
        refine ⟨_, ?_, by rw [hcon]⟩
        simp only [B31_0, hw, e1, cond_false]
        rfl)
    ⟨0, rfl, by omega, .inl rfl, fun j hj => absurd hj (Nat.not_lt_zero _)⟩ (by simp only; omega)
  obtain ⟨r, h1, rfl⟩ := h
  have h1' : L31_0 ((s, p, (0:Int), ()), ()) = _ := h1
  simp only [F31, h1']
  cases contains s p <;> rfl

/-- is a term true of a letter? -/
def ask (l : Ltr) (t : Qry) : Bool :=
  if t.1 = 2 then decide (l.2.1 &&& t.2.1 = t.2.1)
  else if t.1 = 3 then decide (l.2.1 &&& t.2.1 = 0)
  else if t.1 = 4 then decide (t.2.2.1 < (l.2.2.1.length : Int))
  else if t.1 = 5 then decide ((l.2.2.1.length : Int) < t.2.2.1)
  else if t.1 = 6 then Go.Lib.contains (l.2.2.1.map lowc) (t.2.2.2.2.1.map lowc)
  else if t.1 = 7 then decide (t.2.2.1 ≤ l.1) && decide (l.1 ≤ t.2.2.2.1)
  else true

theorem F30_eq (l : Ltr) (t : Qry) (hl : l.2.2.1.length ≤ 600) (ht : t.2.2.2.2.1.length ≤ maxLen) : F30 (((l.1, l.2.1, l.2.2.1, ()), (t.1, t.2.1, t.2.2.1, t.2.2.2.1, t.2.2.2.2.1, ()), ()), ()) = some (ask l t, ()) := by
  have hm : maxLen = 9223372036854775807 := rfl
  have e1 := F44_eq l.2.2.1 (by omega)
  have e2 := F44_eq t.2.2.2.2.1 ht
  have e3 : (l.2.2.1.map lowc).length < 4294967281 := by
    rw [List.length_map]; omega
  simp only [F30, ask, e1, e2, e3, Option.bind_some, Bool.cond_decide, ↓reduceIte]
  repeat' split
  all_goals rfl

end Go.Bx
