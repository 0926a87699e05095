/- Boxes: where a letter is, cuts and flags. -/
import Derived.Test.YtbnmcdcpendjjaaBx4
namespace Go.Bx
open Go Go.Ev
set_option maxRecDepth 100000

def cmp3 (a b : Int) : Int := if a < b then -1 else if b < a then 1 else 0

theorem F53_eq (a : Int) : F53 ((a, ()), ()) = some (false, ()) := by
  simp only [F53, decide_true, Bool.not_true]

theorem F46_eq (u f : Int × Unit) (l : Ltr) (uid : Int) : F46 (((l.1, l.2.1, l.2.2.1, ()), uid, ()), ()) = some (cmp3 l.1 uid, ()) := by
  simp only [F46, F47, F53_eq, Option.bind_some, cond_false, cmp3]
  by_cases h1 : l.1 < uid
  · simp [h1]
  · by_cases h2 : uid < l.1
    · simp [h1, h2]
    · simp [h1, h2]

theorem mid {lo hi : Nat} (h : lo + hi < 1000) : w64 (Int.fdiv (IntKind.wrap .u64 (w64 ((lo : Int) + (hi : Int)))) (2 ^ 1)) = (((lo + hi) / 2 : Nat) : Int) := by
  rw [w64_id (n := (lo : Int) + hi) (by omega) (by omega)]
  have e : IntKind.wrap .u64 ((lo : Int) + (hi : Int)) = ((lo + hi : Nat) : Int) := by
    unfold IntKind.wrap
    simp only [IntKind.bits, IntKind.signed]
    simp
    omega
  rw [e]
  have e2 : Int.fdiv ((lo + hi : Nat) : Int) (2 ^ 1) = (((lo + hi) / 2 : Nat) : Int) := by
    rw [Int.fdiv_eq_ediv_of_nonneg _ (by decide)]
    omega
  rw [e2]
  exact w64_id (by omega) (by omega)

theorem getD_lt {ls : List Ltr} (h : ls.Pairwise (fun a b => a.1 < b.1)) {i j : Nat} (hij : i < j) (hj : j < ls.length) (d : Ltr) : (ls.getD i d).1 < (ls.getD j d).1 := by
  have := List.pairwise_iff_getElem.mp h i j (by omega) hj hij
  rw [List.getD_eq_getElem?_getD, List.getD_eq_getElem?_getD, List.getElem?_eq_getElem hj, List.getElem?_eq_getElem (show i < ls.length by omega)]
  exact this

abbrev nol : Ltr := (0, 0, [], ())

theorem L45_eq (ls : List Ltr) (uid : Int) (hl : ls.length ≤ 32) (hr : ls.Pairwise (fun a b => a.1 < b.1)) :
    ∃ lo : Nat, L45c46_0 ((ls, uid, (), ((ls.length : Nat) : Int), (0:Int), ((ls.length : Nat) : Int), ()), ()) = some ((ls, uid, (), ((ls.length : Nat) : Int), (lo : Int), ()), ()) ∧ lo ≤ ls.length ∧ (∀ k, k < lo → (ls.getD k nol).1 < uid) ∧ (∀ k, lo ≤ k → k < ls.length → uid ≤ (ls.getD k nol).1) := by
  have hF := FUEL_big
  have h := loop_ind (f := B45c46_0) (p := ((ls, uid, (), ((ls.length : Nat) : Int), (0:Int), ((ls.length : Nat) : Int), ()), ()))
    (fun p => ∃ lo hi : Nat, p = ((ls, uid, (), ((ls.length : Nat) : Int), (lo : Int), (hi : Int), ()), ()) ∧ lo ≤ hi ∧ hi ≤ ls.length ∧ (∀ k, k < lo → (ls.getD k nol).1 < uid) ∧ (∀ k, hi ≤ k → k < ls.length → uid ≤ (ls.getD k nol).1))
    (fun p => (p.1.2.2.2.2.2.1 - p.1.2.2.2.2.1).toNat)
    (fun r => ∃ lo : Nat, r = ((ls, uid, (), ((ls.length : Nat) : Int), (lo : Int), ()), ()) ∧ lo ≤ ls.length ∧ (∀ k, k < lo → (ls.getD k nol).1 < uid) ∧ (∀ k, lo ≤ k → k < ls.length → uid ≤ (ls.getD k nol).1))
    (fun p hp => by
      obtain ⟨lo, hi, rfl, h1, h2, h3, h4⟩ := hp
      by_cases hlt : lo < hi
      · left
        have hm1 : lo ≤ (lo + hi) / 2 := by omega
        have hm2 : (lo + hi) / 2 < hi := by omega
        have hm3 : (lo + hi) / 2 < ls.length := by omega
        have hg := F46_eq (0, ()) (0, ()) (ls.getD ((lo + hi) / 2) nol) uid
        have hh : B45c46_0 ((ls, uid, (), ((ls.length : Nat) : Int), (lo : Int), (hi : Int), ()), ()) = some (.inl (if (ls.getD ((lo + hi) / 2) nol).1 < uid then ((ls, uid, (), ((ls.length : Nat) : Int), (((lo + hi) / 2 + 1 : Nat) : Int), (hi : Int), ()), ()) else ((ls, uid, (), ((ls.length : Nat) : Int), (lo : Int), (((lo + hi) / 2 : Nat) : Int), ()), ()))) := by
          simp only [B45c46_0, nat_lt, nat_nn, hlt, decide_true, cond_true, Option.bind_some, mid (show lo + hi < 1000 by omega), hm3, Bool.and_true, Int.toNat_natCast]
          rw [hg]
          simp only [Option.bind_some, cmp3]
          by_cases hc : (ls.getD ((lo + hi) / 2) nol).1 < uid
          · simp only [hc, ↓reduceIte, w64_nat (show (lo + hi) / 2 < 9223372036854775807 by omega)]
            rfl
          · simp only [hc, ↓reduceIte]
            by_cases hc2 : uid < (ls.getD ((lo + hi) / 2) nol).1
            · simp only [hc2, ↓reduceIte]; rfl
            · simp only [hc2, ↓reduceIte]; rfl
        by_cases hc : (ls.getD ((lo + hi) / 2) nol).1 < uid
        · rw [if_pos hc] at hh
          refine ⟨_, hh, ⟨_, hi, rfl, by omega, h2, fun k hk => ?_, h4⟩, by simp only; omega⟩
          rcases Nat.lt_or_ge k ((lo + hi) / 2) with hk2 | hk2
          · have := getD_lt hr hk2 hm3 nol
            omega
          · obtain rfl : k = (lo + hi) / 2 := by omega
            exact hc
        · rw [if_neg hc] at hh
          refine ⟨_, hh, ⟨lo, _, rfl, hm1, by omega, h3, fun k hk hk3 => ?_⟩, by simp only; omega⟩
          rcases Nat.lt_or_ge ((lo + hi) / 2) k with hk2 | hk2
          · have := getD_lt hr hk2 hk3 nol
            omega
          · obtain rfl : k = (lo + hi) / 2 := by omega
            omega
      · right
        obtain rfl : lo = hi := by omega
        refine ⟨((ls, uid, (), ((ls.length : Nat) : Int), (lo : Int), ()), ()), ?_, lo, rfl, h2, h3, h4⟩
        simp only [B45c46_0, Int.lt_irrefl, decide_false, cond_false])
    ⟨0, ls.length, rfl, Nat.zero_le _, Nat.le_refl _, fun k h => absurd h (Nat.not_lt_zero _), fun k h h' => by omega⟩ (by simp only; omega)
  obtain ⟨r, h1, lo, rfl, h2⟩ := h
  exact ⟨lo, h1, h2⟩

/-- whether a letter is in a list -/
def has (ls : List Ltr) (uid : Int) : Bool := ls.any fun l => decide (l.1 = uid)

theorem F34_eq (b : Box) (uid : Int) (hl : b.2.2.2.1.length ≤ 32) (hr : b.2.2.2.1.Pairwise (fun a b => a.1 < b.1)) :
    ∃ i : Nat, F34 ((b, uid, ()), ()) = some (((i : Int), has b.2.2.2.1 uid, ()), ()) ∧ (has b.2.2.2.1 uid = true → i < b.2.2.2.1.length ∧ (b.2.2.2.1.getD i nol).1 = uid) := by
  obtain ⟨nm, v, n, ls, u⟩ := b
  obtain ⟨lo, h1, h2, h3, h4⟩ := L45_eq ls uid hl hr
  change ls.length ≤ 32 at hl
  change ls.Pairwise (fun a b => a.1 < b.1) at hr
  refine ⟨lo, ?_, ?_⟩
  · simp only [F34, F45c46, h1, Option.bind_some, nat_lt, nat_nn, Bool.true_and, Int.toNat_natCast]
    by_cases hlo : lo < ls.length
    · have hg := F46_eq (0, ()) (0, ()) (ls.getD lo nol) uid
      simp only [hlo, decide_true, Bool.true_or, cond_true]
      rw [hg]
      simp only [Option.bind_some]
      have e : decide (cmp3 (ls.getD lo nol).1 uid = 0) = has ls uid := by
        rw [Bool.eq_iff_iff, decide_eq_true_eq]
        unfold has
        rw [List.any_eq_true]
        constructor
        · intro hc
          refine ⟨ls.getD lo nol, ?_, ?_⟩
          · rw [List.getD_eq_getElem?_getD, List.getElem?_eq_getElem hlo]
            exact List.getElem_mem hlo
          · have := h4 lo (Nat.le_refl _) hlo
            unfold cmp3 at hc
            rw [decide_eq_true_eq]
            split at hc
            · omega
            · split at hc
              · omega
              · omega
        · rintro ⟨l, hm, he⟩
          rw [decide_eq_true_eq] at he
          obtain ⟨k, hk, rfl⟩ := List.getElem_of_mem hm
          have e1 : (ls.getD k nol).1 = uid := by
            rw [List.getD_eq_getElem?_getD, List.getElem?_eq_getElem hk]; exact he
          rcases Nat.lt_trichotomy k lo with h | h | h
          · have := h3 k h; omega
          · subst h
            unfold cmp3
            rw [if_neg (by omega), if_neg (by omega)]
          · have := getD_lt hr h hk nol
            have := h4 lo (Nat.le_refl _) hlo
            omega
      rw [e]
    · have e : has ls uid = false := by
        unfold has
        rw [List.any_eq_false]
        intro l hm
        rw [decide_eq_true_eq]
        obtain ⟨k, hk, rfl⟩ := List.getElem_of_mem hm
        have e1 : (ls.getD k nol).1 = (ls[k]).1 := by
          rw [List.getD_eq_getElem?_getD, List.getElem?_eq_getElem hk]; rfl
        have := h3 k (by omega)
        omega
      simp only [hlo, decide_false, Bool.not_false, Bool.or_true, cond_true, cond_false, e, Option.bind_some]
  · intro hh
    change has ls uid = true at hh
    unfold has at hh
    rw [List.any_eq_true] at hh
    obtain ⟨l, hm, he⟩ := hh
    rw [decide_eq_true_eq] at he
    obtain ⟨k, hk, rfl⟩ := List.getElem_of_mem hm
    have e1 : (ls.getD k nol).1 = uid := by
      rw [List.getD_eq_getElem?_getD, List.getElem?_eq_getElem hk]; exact he
    change lo < ls.length ∧ (ls.getD lo nol).1 = uid
    rcases Nat.lt_trichotomy k lo with h | h | h
    · have := h3 k h; omega
    · subst h
      exact ⟨hk, e1⟩
    · have := getD_lt hr h hk nol
      have := h4 lo (Nat.le_refl _) (by omega)
      omega

end Go.Bx
