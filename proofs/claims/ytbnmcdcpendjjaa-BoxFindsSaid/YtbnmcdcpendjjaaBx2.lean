/- Boxes: the plain laws of Check, Size, own and Same. -/
import Derived.Test.YtbnmcdcpendjjaaBx1
import Derived.Test.YtbnmcdcpendjjaaLoopL
namespace Go.Bx
open Go Go.Ev
set_option maxRecDepth 100000

abbrev Ltr : Type := Int × (UInt8 × (List UInt8 × Unit))
abbrev Box : Type := List UInt8 × Int × Int × List Ltr × Unit
abbrev Out : Type := (Unit × Unit) ⊕ ((Int × Unit) × Unit)

/-- one letter behind another -/
def chk1 (next : Int) (l : Ltr) (last : Int) : Int ⊕ Out :=
  if l.1 ≤ last ∨ next ≤ l.1 then .inr (.inr ((4, ()), ())) else if 32 ≤ l.2.1.toNat then .inr (.inr ((2, ()), ())) else if 600 < l.2.2.1.length then .inr (.inr ((6, ()), ())) else .inl l.1

def chk (next : Int) (ls : List Ltr) : Out := foldS (chk1 next) (fun _ => .inl ((), ())) 0 ls

def code : Out → Int
  | .inl _ => 0
  | .inr q => q.1.1

def check (b : Box) : Int :=
  if b.2.1 < 1 ∨ 4294967295 < b.2.1 ∨ b.2.2.1 < 1 ∨ 4294967295 < b.2.2.1 then 2 else if 32 < b.2.2.2.1.length then 8 else code (chk b.2.2.1 b.2.2.2.1)

theorem L16_eq (nm : List UInt8) (v n : Int) (ls : List Ltr) (hl : ls.length ≤ 32) : L16_0 (((), (0:Int), ls, ((ls.length : Nat) : Int), (0:Int), ()), ((nm, v, n, ls, ()), ())) = some (chk n ls) := by
  have hF := FUEL_big
  refine walk_list (f := B16_0) (fun b i => (((), b, ls, ((ls.length : Nat) : Int), (i : Int), ()), ((nm, v, n, ls, ()), ()))) ls (chk1 n) _ (fun b i a hi ha => ?_) (fun b => ?_) (by omega)
  · have e1 : ((0:Int), ((0:UInt8), (([]:(List UInt8)), ()))) = ((0, 0, [], ()) : Ltr) := rfl
    simp only [B16_0, nat_lt, nat_nn, hi, decide_true, Bool.and_true, cond_true, Option.bind_some, Int.toNat_natCast, ha, chk1, w64_nat (show i < 9223372036854775807 by omega)]
    by_cases h1 : a.1 ≤ b ∨ n ≤ a.1
    · simp only [h1, ↓reduceIte]
      rcases h1 with h1 | h1 <;> simp [h1]
    · simp only [h1, ↓reduceIte]
      rw [not_or] at h1
      by_cases h2 : 32 ≤ a.2.1.toNat
      · simp [h1, h2]
      · by_cases h3 : 600 < a.2.2.1.length
        · have h3' : (600 : Int) < (a.2.2.1.length : Int) := by omega
          simp [h1, h2, h3, h3']
        · have h3' : ¬ (600 : Int) < (a.2.2.1.length : Int) := by omega
          simp [h1, h2, h3, h3']
  · simp only [B16_0, Int.lt_irrefl, decide_false, cond_false]

theorem F16_eq (b : Box) : F16 ((b, ()), ()) = some (check b, ()) := by
  obtain ⟨nm, v, n, ls, u⟩ := b
  cases u
  simp only [F16, F33, check, Option.bind_some]
  by_cases h1 : v < 1 ∨ 4294967295 < v ∨ n < 1 ∨ 4294967295 < n
  · simp only [h1, ↓reduceIte]
    by_cases h2 : 1 ≤ v ∧ v ≤ 4294967295
    · have : ¬ (1 ≤ n ∧ n ≤ 4294967295) := by omega
      simp [h2, this, ← Bool.decide_and]
    · simp [h2, ← Bool.decide_and]
  · have h2 : 1 ≤ v ∧ v ≤ 4294967295 ∧ 1 ≤ n ∧ n ≤ 4294967295 := by omega
    simp only [h1, ↓reduceIte]
    by_cases h3 : 32 < ls.length
    · have h3' : (32 : Int) < (ls.length : Int) := by omega
      simp [h2, h3, h3']
    · have h3' : ¬ (32 : Int) < (ls.length : Int) := by omega
      simp only [h2, h3, h3', L16_eq nm v n ls (by omega), decide_true, decide_false, Bool.and_true, Bool.not_true, Bool.not_false, cond_true, cond_false, Option.bind_some, ↓reduceIte]
      cases chk n ls <;> rfl

theorem L17_eq (nm : List UInt8) (v n : Int) (ls : List Ltr) (hl : ls.length ≤ 32) : L17_0 (((), (0:Int), ()), ((nm, v, n, ls, ()), ())) = some (chk n ls) := by
  have hF := FUEL_big
  refine walk_listI (f := B17_0) (fun (_ : Int) i => (((), (i : Int), ()), ((nm, v, n, ls, ()), ()))) ls (chk1 n) _ (fun b i => 0 ≤ b ∧ (i = 0 → b = 0) ∧ (∀ d, 0 < i → (ls.getD (i - 1) d).1 = b))
    (fun b i a hI hi ha => ?_) (fun b _ => ?_) (by omega) ⟨by omega, fun _ => rfl, fun _ h => absurd h (Nat.lt_irrefl _)⟩
  · obtain ⟨hb, hb0, hbp⟩ := hI
    have hw : 0 < i → w64 ((i : Int) - 1) = ((i - 1 : Nat) : Int) := fun h => by
      rw [w64_id (by omega) (by omega)]; omega
    have hc : (decide (a.1 < (1:Int)) || decide (n ≤ a.1) || (decide ((0:Int) < (i:Int)) && decide (a.1 ≤ (ls.getD (Int.toNat (w64 ((i:Int) - 1))) ((0:Int), ((0:UInt8), (([]:(List UInt8)), ())))).1))) = decide (a.1 ≤ b ∨ n ≤ a.1) := by
      by_cases h0 : 0 < i
      · rw [hw h0, Int.toNat_natCast, hbp _ h0]
        rw [Bool.eq_iff_iff]
        simp only [Bool.or_eq_true, Bool.and_eq_true, decide_eq_true_eq]
        omega
      · have := hb0 (by omega)
        rw [Bool.eq_iff_iff]
        simp only [Bool.or_eq_true, Bool.and_eq_true, decide_eq_true_eq]
        omega
    have hg : (((decide ((0:Int) ≤ (w64 ((i:Int) - (1:Int))))) && (decide ((w64 ((i:Int) - (1:Int))) < (((List.length ls) : Nat) : Int)))) || (!((decide ((0:Int) < (i:Int))) && (!((decide (a.1 < (1:Int))) || (decide (n ≤ a.1))))))) = true := by
      by_cases h0 : 0 < i
      · rw [hw h0, nat_nn, nat_lt]
        simp; omega
      · simp [h0]
    simp only [B17_0, nat_lt, nat_nn, hi, decide_true, Bool.and_true, cond_true, Option.bind_some, Int.toNat_natCast, ha, w64_nat (show i < 9223372036854775807 by omega)]
    rw [hg, hc]
    simp only [cond_true, Option.bind_some]
    unfold chk1
    by_cases h1 : a.1 ≤ b ∨ n ≤ a.1
    · exact .inr ⟨_, if_pos h1, by simp [h1]⟩
    · simp only [h1, ↓reduceIte]
      by_cases h2 : 32 ≤ a.2.1.toNat
      · exact .inr ⟨_, if_pos h2, by
          have h2' : 31 < a.2.1.toNat := by omega
          simp [h2']⟩
      · have h2' : ¬ 31 < a.2.1.toNat := by omega
        rw [if_neg h2]
        by_cases h3 : 600 < a.2.2.1.length
        · have h3' : (600 : Int) < (a.2.2.1.length : Int) := by omega
          exact .inr ⟨_, if_pos h3, by simp [h2', h3']⟩
        · have h3' : ¬ (600 : Int) < (a.2.2.1.length : Int) := by omega
          exact .inl ⟨_, if_neg h3, ⟨by omega, by omega, fun d _ => by rw [Nat.add_sub_cancel, ha]⟩, by simp [h2', h3', w64_id (n := (i : Int) + 1) (by omega) (by omega)]⟩
  · simp only [B17_0, Int.lt_irrefl, decide_false, cond_false]

theorem F17_eq (b : Box) : F17 ((b, ()), ()) = some (check b, ()) := by
  obtain ⟨nm, v, n, ls, u⟩ := b
  cases u
  simp only [F17, check]
  by_cases h1 : v < 1 ∨ 4294967295 < v ∨ n < 1 ∨ 4294967295 < n
  · have e : (decide (v < (1:Int)) || decide ((4294967295:Int) < v) || decide (n < (1:Int)) || decide ((4294967295:Int) < n)) = true := by
      simp only [Bool.or_eq_true, decide_eq_true_eq]; omega
    simp only [h1, ↓reduceIte, e, cond_true]
  · have e : (decide (v < (1:Int)) || decide ((4294967295:Int) < v) || decide (n < (1:Int)) || decide ((4294967295:Int) < n)) = false := by
      simp only [Bool.or_eq_false_iff, decide_eq_false_iff_not]; omega
    simp only [h1, ↓reduceIte, e, cond_false]
    by_cases h3 : 32 < ls.length
    · have h3' : (32 : Int) < (ls.length : Int) := by omega
      simp [h3, h3']
    · have h3' : ¬ (32 : Int) < (ls.length : Int) := by omega
      simp only [h3, h3', L17_eq nm v n ls (by omega), decide_false, cond_false, Option.bind_some, ↓reduceIte]
      cases chk n ls <;> rfl

/-- the bytes of letters, in the machine's sum -/
def size (ls : List Ltr) : Int := foldS (fun (l : Ltr) n => (.inl (w64 (n + (l.2.2.1.length : Int))) : Int ⊕ Int)) id 0 ls

theorem foldS_map {α β τ υ : Type} (g : τ → υ) {step : α → β → β ⊕ τ} {fin : β → τ} : ∀ (ls : List α) (b : β),
    foldS (fun a b => match step a b with | .inl c => .inl c | .inr r => .inr (g r)) (fun b => g (fin b)) b ls = g (foldS step fin b ls)
  | [], _ => rfl
  | a :: t, b => by
    simp only [foldS]
    cases step a b with
    | inl c => exact foldS_map g t c
    | inr r => rfl

theorem F18_eq (b : Box) (hl : b.2.2.2.1.length ≤ maxLen) : F18 ((b, ()), ()) = some (size b.2.2.2.1, ()) := by
  obtain ⟨nm, v, n, ls, u⟩ := b
  have hF : maxLen < FUEL := by unfold maxLen FUEL; omega
  have hm : maxLen = 9223372036854775807 := rfl
  change ls.length ≤ maxLen at hl
  have h : L18_0 (((0:Int), ls, ((ls.length : Nat) : Int), (0:Int), ()), ()) = some (foldS (fun (l : Ltr) n => (.inl (w64 (n + (l.2.2.1.length : Int))) : Int ⊕ ((Int × Unit) × Unit))) (fun n => ((n, ()), ())) 0 ls) :=
    walk_list (f := B18_0) (fun b i => ((b, ls, ((ls.length : Nat) : Int), (i : Int), ()), ())) ls _ _ (fun b i a hi ha => by
      simp only [B18_0, nat_lt, nat_nn, hi, decide_true, Bool.and_true, cond_true, Option.bind_some, Int.toNat_natCast, ha, w64_nat (show i < 9223372036854775807 by omega)])
      (fun b => by simp only [B18_0, Int.lt_irrefl, decide_false, cond_false]) (by omega)
  have e := foldS_map (fun n : Int => ((n, ()), ())) (step := fun (l : Ltr) n => (.inl (w64 (n + (l.2.2.1.length : Int))) : Int ⊕ Int)) (fin := id) ls 0
  simp only [id_eq] at e
  rw [e] at h
  simp only [F18, h, Option.bind_some, size]

theorem F19_eq (b : Box) (hl : b.2.2.2.1.length ≤ maxLen) : F19 ((b, ()), ()) = some (size b.2.2.2.1, ()) := by
  obtain ⟨nm, v, n, ls, u⟩ := b
  have hF : maxLen < FUEL := by unfold maxLen FUEL; omega
  have hm : maxLen = 9223372036854775807 := rfl
  change ls.length ≤ maxLen at hl
  have h : L19_0 (((), (0:Int), (0:Int), ()), ((nm, v, n, ls, ()), ())) = some (foldS (fun (l : Ltr) n => (.inl (w64 (n + (l.2.2.1.length : Int))) : Int ⊕ ((Int × Unit) × Unit))) (fun n => ((n, ()), ())) 0 ls) :=
    walk_list (f := B19_0) (fun b i => (((), b, (i : Int), ()), ((nm, v, n, ls, ()), ()))) ls _ _ (fun b i a hi ha => by
      simp only [B19_0, nat_lt, nat_nn, hi, decide_true, Bool.and_true, cond_true, Option.bind_some, Int.toNat_natCast, ha, w64_nat (show i < 9223372036854775807 by omega)])
      (fun b => by simp only [B19_0, Int.lt_irrefl, decide_false, cond_false]) (by omega)
  have e := foldS_map (fun n : Int => ((n, ()), ())) (step := fun (l : Ltr) n => (.inl (w64 (n + (l.2.2.1.length : Int))) : Int ⊕ Int)) (fin := id) ls 0
  simp only [id_eq] at e
  rw [e] at h
  simp only [F19, h, Option.bind_some, size]

end Go.Bx
