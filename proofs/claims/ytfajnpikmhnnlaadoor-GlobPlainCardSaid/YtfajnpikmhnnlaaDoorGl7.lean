/- The reference's matcher. -/
import Derived.Test.YtfajnpikmhnnlaaDoorGl6
namespace Go.Gl
open Go Go.Ev
set_option maxRecDepth 100000

theorem mt_single {c : UInt8} {u : List UInt8} : Mt [c] u ↔ One c u :=
  ⟨fun ⟨t, v, h1, h2, h3⟩ => by
    have h3' : v = [] := h3
    subst h3' h1
    simpa using h2, fun h => ⟨u, [], by simp, h, rfl⟩⟩

theorem mt_star {c : UInt8} (hc : c = 42 ∨ c = 37) {q s : List UInt8} {a : UInt8} : Mt (q ++ [c]) (s ++ [a]) ↔ Mt q (s ++ [a]) ∨ (Mt (q ++ [c]) s ∧ (c = 42 ∨ a ≠ 47)) := by
  constructor
  · intro h
    obtain ⟨t, u, h1, h2, h3⟩ := mt_append.1 h
    rw [mt_single] at h3
    rcases List.eq_nil_or_concat u with rfl | ⟨v, b, rfl⟩
    · left; rw [h1]; simpa using h2
    · right
      rw [List.concat_eq_append] at h1 h3
      rw [← List.append_assoc] at h1
      obtain ⟨e1, e2⟩ := List.append_inj' h1 rfl
      simp only [List.cons.injEq, and_true] at e2
      subst e1 e2
      refine ⟨mt_append.2 ⟨t, v, rfl, h2, mt_single.2 ?_⟩, ?_⟩
      · rcases hc with rfl | rfl
        · simp [One]
        · simp [One] at h3 ⊢; exact h3.1
      · rcases hc with rfl | rfl
        · left; rfl
        · right; simp [One] at h3; exact fun h => h3.2 h.symm
  · rintro (h | ⟨h, h2⟩)
    · exact mt_append.2 ⟨_, [], by simp, h, mt_single.2 (by rcases hc with rfl | rfl <;> simp [One])⟩
    · obtain ⟨t, u, rfl, h3, h4⟩ := mt_append.1 h
      rw [mt_single] at h4
      refine mt_append.2 ⟨t, u ++ [a], by simp, h3, mt_single.2 ?_⟩
      rcases hc with rfl | rfl
      · simp [One]
      · simp [One] at h4 h2 ⊢; exact ⟨h4, fun h => h2 h.symm⟩

theorem mt_star0 {c : UInt8} (hc : c = 42 ∨ c = 37) {q : List UInt8} : Mt (q ++ [c]) [] ↔ Mt q [] := by
  constructor
  · intro h
    obtain ⟨t, u, h1, h2, _⟩ := mt_append.1 h
    obtain ⟨rfl, rfl⟩ := List.append_eq_nil_iff.1 h1.symm
    exact h2
  · intro h
    exact mt_append.2 ⟨[], [], rfl, h, mt_single.2 (by rcases hc with rfl | rfl <;> simp [One])⟩

theorem mt_lit {c : UInt8} (hc : ¬ (c = 42 ∨ c = 37)) {q s : List UInt8} {a : UInt8} : Mt (q ++ [c]) (s ++ [a]) ↔ Mt q s ∧ a = c := by
  have h1 : ¬ c = 42 := fun h => hc (.inl h)
  have h2 : ¬ c = 37 := fun h => hc (.inr h)
  constructor
  · intro h
    obtain ⟨t, u, e1, e2, e3⟩ := mt_append.1 h
    rw [mt_single] at e3
    simp only [One, if_neg h1, if_neg h2] at e3
    subst e3
    obtain ⟨rfl, e4⟩ := List.append_inj' e1 rfl
    simp only [List.cons.injEq, and_true] at e4
    exact ⟨e2, e4⟩
  · rintro ⟨h3, rfl⟩
    exact mt_append.2 ⟨s, [a], rfl, h3, mt_single.2 (by simp [One, if_neg h1, if_neg h2])⟩

theorem mt_lit0 {c : UInt8} (hc : ¬ (c = 42 ∨ c = 37)) {q : List UInt8} : ¬ Mt (q ++ [c]) [] := by
  have h1 : ¬ c = 42 := fun h => hc (.inl h)
  have h2 : ¬ c = 37 := fun h => hc (.inr h)
  intro h
  obtain ⟨t, u, e1, e2, e3⟩ := mt_append.1 h
  rw [mt_single] at e3
  simp only [One, if_neg h1, if_neg h2] at e3
  subst e3
  simp at e1

/-- A row of truths. -/
def Row (pat name : List UInt8) (p : Nat) (row : List Bool) (upto : Nat) : Prop := ∀ k, k < upto → (row.getD k false = true ↔ Mt (pat.take p) (name.take k))

theorem getD_set {row : List Bool} {n k : Nat} {v : Bool} (h : n < row.length) : (row.set n v).getD k false = if k = n then v else row.getD k false := by
  simp only [List.getD_eq_getElem?_getD, List.getElem?_set]
  by_cases hk : n = k
  · subst hk; simp [h]
  · rw [if_neg hk, if_neg (Ne.symm hk)]

theorem row_set {pat name : List UInt8} {p : Nat} {next : List Bool} {n : Nat} {v : Bool} (hn : n < next.length) (h : Row pat name p next n) (hv : v = true ↔ Mt (pat.take p) (name.take n)) : Row pat name p (next.set n v) (n + 1) := by
  intro k hk
  rw [getD_set hn]
  by_cases h1 : k = n
  · subst h1; rw [if_pos rfl]; exact hv
  · rw [if_neg h1]; exact h k (by omega)

theorem take_snoc {α : Type} [Inhabited α] {l : List α} {n : Nat} (h : n < l.length) (d : α) : l.take (n + 1) = l.take n ++ [l.getD n d] := by
  rw [List.take_add_one, List.getD_eq_getElem?_getD, List.getElem?_eq_getElem h]; rfl

theorem inner28 {pat name : List UInt8} {p : Nat} {row : List Bool} (hp : p < pat.length) (hpl : pat.length ≤ 200) (hnm : name.length ≤ 200) (hrl : row.length = name.length + 1) (hrow : Row pat name p row (name.length + 1)) :
    ∃ next, L28_1 ((pat, name, (), (p : Int), (), 0, ()), (row, List.replicate (name.length + 1) false, ())) = some ((pat, name, (p : Int), (), ()), (next, ())) ∧ next.length = name.length + 1 ∧ Row pat name (p + 1) next (name.length + 1) := by
  obtain ⟨r, h1, next, rfl, h2, h3⟩ := loop_ind (f := B28_1) (fun s => ∃ (n : Nat) (next : List Bool), s = ((pat, name, (), (p : Int), (), (n : Int), ()), (row, next, ())) ∧ n ≤ name.length + 1 ∧ next.length = name.length + 1 ∧ Row pat name (p + 1) next n)
    (fun s => ((name.length + 1 : Nat) - s.1.2.2.2.2.2.1).toNat) (fun r => ∃ next, r = ((pat, name, (p : Int), (), ()), (next, ())) ∧ next.length = name.length + 1 ∧ Row pat name (p + 1) next (name.length + 1))
    (fun s ⟨n, next, hs, hn, hnl, hR⟩ => by
      subst hs
      by_cases hlt : n ≤ name.length
      · left
        have c1 : decide ((n : Int) ≤ ((name.length : Nat) : Int)) = true := by simp; omega
        have c2 : decide ((0 : Int) ≤ (p : Int)) = true := by simp
        have c3 : decide ((p : Int) < ((pat.length : Nat) : Int)) = true := by simp; omega
        have c4 : decide ((0 : Int) ≤ (n : Int)) = true := by simp
        have c5 : decide ((n : Int) < ((row.length : Nat) : Int)) = true := by simp; omega
        have c6 : decide ((n : Int) < ((next.length : Nat) : Int)) = true := by simp; omega
        have hps : pat.take (p + 1) = pat.take p ++ [pat.getD p 0] := take_snoc hp 0
        have e1 : ∀ hc : pat.getD p 0 = 42 ∨ pat.getD p 0 = 37, (decide (pat.getD p 0 = 42) || decide (pat.getD p 0 = 37)) = true := fun hc => by simpa using hc
        have e2 : ∀ hc : ¬ (pat.getD p 0 = 42 ∨ pat.getD p 0 = 37), (decide (pat.getD p 0 = 42) || decide (pat.getD p 0 = 37)) = false := fun hc => by simpa using hc
        have wn : w64 ((n : Int) + 1) = ((n + 1 : Nat) : Int) := by rw [w64_id (by omega) (by omega)]; rfl
        have hR0 := hrow n (by omega)
        have key : ∃ v, B28_1 ((pat, name, (), (p : Int), (), (n : Int), ()), (row, next, ())) = some (Sum.inl ((pat, name, (), (p : Int), (), ((n + 1 : Nat) : Int), ()), (row, next.set n v, ()))) ∧ (v = true ↔ Mt (pat.take (p + 1)) (name.take n)) := by
          rw [hps]
          cases n with
          | zero =>
            have c7 : decide ((0 : Int) < ((0 : Nat) : Int)) = false := by simp
            by_cases hc : pat.getD p 0 = 42 ∨ pat.getD p 0 = 37
            · refine ⟨row.getD 0 false || ((false && next.getD (w64 (((0 : Nat) : Int) - 1)).toNat false) && (decide (pat.getD p 0 = 42) || !decide (name.getD (w64 (((0 : Nat) : Int) - 1)).toNat 0 = 47))), ?_, ?_⟩
              · simp only [B28_1, Int.toNat_natCast, c1, c2, c3, c4, c5, c6, c7, e1 hc, Bool.and_self, Bool.false_and, Bool.not_false, Bool.or_true, cond_true, Option.bind_some, wn]
              · rw [Bool.false_and, Bool.false_and, Bool.or_false, hR0, List.take_zero, mt_star0 hc]
            · refine ⟨(false && row.getD (w64 (((0 : Nat) : Int) - 1)).toNat false) && decide (name.getD (w64 (((0 : Nat) : Int) - 1)).toNat 0 = pat.getD p 0), ?_, ?_⟩
              · simp only [B28_1, Int.toNat_natCast, c1, c2, c3, c4, c6, c7, e2 hc, Bool.and_self, Bool.false_and, Bool.not_false, Bool.or_true, cond_true, cond_false, Option.bind_some, wn]
              · rw [Bool.false_and, Bool.false_and, List.take_zero]
                exact ⟨fun h => (by cases h), fun h => absurd h (mt_lit0 hc)⟩
          | succ j =>
            have c7 : decide ((0 : Int) < ((j + 1 : Nat) : Int)) = true := by simp
            have wj : w64 (((j + 1 : Nat) : Int) - 1) = (j : Int) := by rw [w64_id (by omega) (by omega)]; omega
            have c8 : decide ((0 : Int) ≤ (j : Int)) = true := by simp
            have c9 : decide ((j : Int) < ((next.length : Nat) : Int)) = true := by simp; omega
            have c10 : decide ((j : Int) < ((name.length : Nat) : Int)) = true := by simp; omega
            have c11 : decide ((j : Int) < ((row.length : Nat) : Int)) = true := by simp; omega
            have hns : name.take (j + 1) = name.take j ++ [name.getD j 0] := take_snoc (by omega) 0
            by_cases hc : pat.getD p 0 = 42 ∨ pat.getD p 0 = 37
            · refine ⟨row.getD (j + 1) false || ((true && next.getD j false) && (decide (pat.getD p 0 = 42) || !decide (name.getD j 0 = 47))), ?_, ?_⟩
              · simp only [B28_1, Int.toNat_natCast, wj, c1, c2, c3, c4, c5, c6, c7, c8, c9, c10, e1 hc, Bool.and_self, Bool.true_or, cond_true, Option.bind_some, wn]
              · rw [hns, mt_star hc, ← hns]
                simp only [Bool.or_eq_true, Bool.and_eq_true, decide_eq_true_eq, Bool.true_and, hR0, Bool.not_eq_true', decide_eq_false_iff_not, hR j (by omega), hps]
            · refine ⟨(true && row.getD j false) && decide (name.getD j 0 = pat.getD p 0), ?_, ?_⟩
              · simp only [B28_1, Int.toNat_natCast, wj, c1, c2, c3, c4, c6, c7, c8, c10, c11, e2 hc, Bool.and_self, Bool.true_or, cond_true, cond_false, Option.bind_some, wn]
              · rw [hns, mt_lit hc]
                simp only [Bool.and_eq_true, decide_eq_true_eq, Bool.true_and, hrow j (by omega)]
        obtain ⟨v, k1, k2⟩ := key
        refine ⟨_, k1, ⟨n + 1, _, rfl, by omega, by simpa using hnl, row_set (by omega) hR k2⟩, ?_⟩
        simp only; omega
      · right
        have c1 : decide ((n : Int) ≤ ((name.length : Nat) : Int)) = false := by simp; omega
        have hne : n = name.length + 1 := by omega
        subst hne
        exact ⟨_, by simp only [B28_1, c1, cond_false] <;> rfl, next, rfl, hnl, hR⟩)
    (p := ((pat, name, (), (p : Int), (), 0, ()), (row, List.replicate (name.length + 1) false, ()))) ⟨0, _, rfl, Nat.zero_le _, by simp, fun k hk => absurd hk (Nat.not_lt_zero _)⟩ (by unfold FUEL; simp only; omega)
  exact ⟨next, h1, h2, h3⟩

theorem F28_eq {pat name : List UInt8} (hpl : pat.length ≤ 200) (hnm : name.length ≤ 200) : ∃ b, F28 ((pat, name, ()), ()) = some (b, ()) ∧ (b = true ↔ Mt pat name) := by
  have w1 : w64 (((name.length : Nat) : Int) + 1) = ((name.length + 1 : Nat) : Int) := by rw [w64_id (by omega) (by omega)]; rfl
  have g1 : decide ((0 : Int) ≤ ((name.length + 1 : Nat) : Int)) = true := by simp; omega
  have g2 : bytesOK (name.length + 1) 1 = true := bytes_true (by omega)
  obtain ⟨r, h1, row, rfl, h2, h3⟩ := loop_ind (f := B28_0) (fun s => ∃ (p : Nat) (row : List Bool), s = ((pat, name, (), (p : Int), ()), (row, ())) ∧ p ≤ pat.length ∧ row.length = name.length + 1 ∧ Row pat name p row (name.length + 1))
    (fun s => ((pat.length : Nat) - s.1.2.2.2.1).toNat) (fun r => ∃ row, r = ((name, (), ()), (row, ())) ∧ row.length = name.length + 1 ∧ Row pat name pat.length row (name.length + 1))
    (fun s ⟨p, row, hs, hp, hrl, hR⟩ => by
      subst hs
      by_cases hlt : p < pat.length
      · left
        have c1 : decide ((p : Int) < ((pat.length : Nat) : Int)) = true := by simp; omega
        have wp : w64 ((p : Int) + 1) = ((p + 1 : Nat) : Int) := by rw [w64_id (by omega) (by omega)]; rfl
        obtain ⟨next, n1, n2, n3⟩ := inner28 hlt hpl hnm hrl hR
        refine ⟨((pat, name, (), ((p + 1 : Nat) : Int), ()), (next, ())), ?_, ⟨p + 1, next, rfl, by omega, n2, n3⟩, by simp only; omega⟩
        simp only [B28_0, c1, w1, g1, g2, Int.le_refl, decide_true, Int.toNat_natCast, Bool.and_self, cond_true, Option.bind_some, n1, wp]
      · right
        have c1 : decide ((p : Int) < ((pat.length : Nat) : Int)) = false := by simp; omega
        have hpe : p = pat.length := by omega
        subst hpe
        exact ⟨_, by simp only [B28_0, c1, cond_false] <;> rfl, row, rfl, hrl, hR⟩)
    (p := ((pat, name, (), 0, ()), ((List.replicate (name.length + 1) false).set 0 true, ()))) ⟨0, _, rfl, Nat.zero_le _, by simp, fun k hk => by
      rw [getD_set (by simp)]
      by_cases h0 : k = 0
      · subst h0; simp [Mt]
      · rw [if_neg h0, List.take_zero]
        have : (List.replicate (name.length + 1) false).getD k false = false := by
          rw [List.getD_eq_getElem?_getD, List.getElem?_replicate]; split <;> rfl
        rw [this]
        refine ⟨fun h => (by cases h), fun h => ?_⟩
        have h' : name.take k = [] := h
        have := congrArg List.length h'
        rw [List.length_take, List.length_nil] at this
        omega⟩ (by unfold FUEL; simp only; omega)
  have h1' : L28_0 ((pat, name, (), 0, ()), ((List.replicate (name.length + 1) false).set 0 true, ())) = some ((name, (), ()), (row, ())) := h1
  refine ⟨row.getD name.length false, ?_, by rw [h3 name.length (by omega), List.take_length, List.take_length]⟩
  have g3 : decide ((0 : Int) < (((List.replicate (name.length + 1) false).length : Nat) : Int)) = true := by simp
  have g4 : decide ((0 : Int) ≤ ((name.length : Nat) : Int)) = true := by simp
  have g5 : decide (((name.length : Nat) : Int) < ((row.length : Nat) : Int)) = true := by simp; omega
  simp only [F28, w1, g1, g2, Int.le_refl, decide_true, Int.toNat_natCast, Bool.and_self, cond_true, Option.bind_some, g3, h1', g4, g5]

end Go.Gl
