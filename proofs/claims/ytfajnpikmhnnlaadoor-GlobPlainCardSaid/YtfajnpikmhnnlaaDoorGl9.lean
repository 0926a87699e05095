/- Names without stars. -/
import Derived.Test.YtfajnpikmhnnlaaDoorGl8
namespace Go.Gl
open Go Go.Ev
set_option maxRecDepth 100000

theorem flat_eq (a : List UInt8) {b : List UInt8} (hb : b.length ≤ 200) : ∃ f, L4_0 ((a, b, true, 0, ()), ()) = some ((a, b, f, ()), ()) ∧ (f = true ↔ 47 ∉ b) := by
  obtain ⟨r, h1, f, rfl, h2⟩ := loop_ind (f := B4_0) (fun p => ∃ (i : Nat) (f : Bool), p = ((a, b, f, (i : Int), ()), ()) ∧ i ≤ b.length ∧ (f = true ↔ 47 ∉ b.take i)) (fun p => ((b.length : Int) - p.1.2.2.2.1).toNat)
    (fun r => ∃ f, r = ((a, b, f, ()), ()) ∧ (f = true ↔ 47 ∉ b))
    (fun p ⟨i, f, hp, hi, hf⟩ => by
      subst hp
      by_cases hlt : i < b.length
      · left
        have c1 : decide ((i : Int) < ((b.length : Nat) : Int)) = true := decide_eq_true (by omega)
        have c2 : decide ((0 : Int) ≤ (i : Int)) = true := decide_eq_true (by omega)
        have wi : w64 ((i : Int) + 1) = ((i + 1 : Nat) : Int) := by rw [w64_id (by omega) (by omega)]; rfl
        refine ⟨((a, b, f && !decide (b.getD i 0 = 47), ((i + 1 : Nat) : Int), ()), ()), ?_, ⟨i + 1, _, rfl, by omega, ?_⟩, by simp only; omega⟩
        · simp only [B4_0, c1, c2, Bool.and_self, Bool.true_or, cond_true, Int.toNat_natCast, Option.bind_some, wi]
        · rw [take_snoc hlt 0, List.mem_append, List.mem_singleton, Bool.and_eq_true, hf, Bool.not_eq_true', decide_eq_false_iff_not]
          exact ⟨fun h h2 => h2.elim h.1 (fun h3 => h.2 h3.symm), fun h => ⟨fun h2 => h (.inl h2), fun h2 => h (.inr h2.symm)⟩⟩
      · right
        have c1 : decide ((i : Int) < ((b.length : Nat) : Int)) = false := decide_eq_false (by omega)
        rw [List.take_of_length_le (by omega)] at hf
        exact ⟨_, by simp only [B4_0, c1, cond_false] <;> rfl, f, rfl, hf⟩)
    (p := ((a, b, true, 0, ()), ())) ⟨0, true, rfl, Nat.zero_le _, by simp⟩ (by unfold FUEL; simp only; omega)
  exact ⟨f, h1, h2⟩

theorem scan_eq {a : List UInt8} (ha : a.length ≤ 200) (b : List UInt8) : L4_1 ((a, b, 0, ()), ()) = some (Sum.inr ((true, ()), ())) ∨ (L4_1 ((a, b, 0, ()), ()) = some (Sum.inl ((a, b, ()), ())) ∧ Lit a) := by
  obtain ⟨r, h1, h2⟩ := loop_ind (f := B4_1) (fun p => ∃ (i : Nat), p = ((a, b, (i : Int), ()), ()) ∧ i ≤ a.length ∧ Lit (a.take i)) (fun p => ((a.length : Int) - p.1.2.2.1).toNat)
    (fun r => r = Sum.inr ((true, ()), ()) ∨ (r = Sum.inl ((a, b, ()), ()) ∧ Lit a))
    (fun p ⟨i, hp, hi, hf⟩ => by
      subst hp
      by_cases hlt : i < a.length
      · have c1 : decide ((i : Int) < ((a.length : Nat) : Int)) = true := decide_eq_true (by omega)
        have c2 : decide ((0 : Int) ≤ (i : Int)) = true := decide_eq_true (by omega)
        have wi : w64 ((i : Int) + 1) = ((i + 1 : Nat) : Int) := by rw [w64_id (by omega) (by omega)]; rfl
        by_cases hc : a.getD i 0 = 42 ∨ a.getD i 0 = 37
        · right
          have c3 : (decide (a.getD i 0 = 42) || decide (a.getD i 0 = 37)) = true := by
            rw [Bool.or_eq_true, decide_eq_true_eq, decide_eq_true_eq]; exact hc
          exact ⟨_, by simp only [B4_1, c1, c2, Bool.and_self, Bool.true_or, cond_true, Int.toNat_natCast, c3, live9, Option.bind_some] <;> rfl, .inl rfl⟩
        · left
          have c3 : (decide (a.getD i 0 = 42) || decide (a.getD i 0 = 37)) = false := by
            rw [Bool.or_eq_false_iff, decide_eq_false_iff_not, decide_eq_false_iff_not]; exact ⟨fun h => hc (.inl h), fun h => hc (.inr h)⟩
          refine ⟨_, by simp only [B4_1, c1, c2, Bool.and_self, Bool.true_or, cond_true, cond_false, Int.toNat_natCast, c3, wi] <;> rfl, ⟨i + 1, rfl, by omega, ?_⟩, by simp only; omega⟩
          intro x hx
          rw [take_snoc hlt 0, List.mem_append, List.mem_singleton] at hx
          rcases hx with h | h
          · exact hf x h
          · rw [h]; exact ⟨fun h => hc (.inl h), fun h => hc (.inr h)⟩
      · right
        have c1 : decide ((i : Int) < ((a.length : Nat) : Int)) = false := decide_eq_false (by omega)
        rw [List.take_of_length_le (by omega)] at hf
        exact ⟨_, by simp only [B4_1, c1, cond_false] <;> rfl, .inr ⟨rfl, hf⟩⟩)
    (p := ((a, b, 0, ()), ())) ⟨0, rfl, Nat.zero_le _, fun c h => by simp at h⟩ (by unfold FUEL; simp only; omega)
  rcases h2 with rfl | ⟨rfl, h3⟩
  · exact .inl h1
  · exact .inr ⟨h1, h3⟩

theorem lit_drop {a : List UInt8} (h : Lit a) (n : Nat) : Lit (a.drop n) := fun c hc => h c (List.mem_of_mem_drop hc)

theorem mm_lit_self {a : List UInt8} (h : Lit a) : MM a a := by
  by_cases hc : In a ∧ In a ∧ (a.length = 5 ∨ a.getD 5 0 = 47)
  · exact (mm_pos hc).2 ((lit_mt (lit_drop h 5)).2 rfl)
  · exact (mm_neg hc).2 ((lit_mt h).2 rfl)

theorem mm_lit_low {a b : List UInt8} (h : Lit a) (hm : MM a b) : low a = low b := by
  by_cases hc : In a ∧ In b ∧ (b.length = 5 ∨ b.getD 5 0 = 47)
  · have h1 := (lit_mt (lit_drop h 5)).1 ((mm_pos hc).1 hm)
    have ha : low a = low (a.take 5) ++ low (a.drop 5) := by rw [low, low, low, ← List.map_append, List.take_append_drop]
    have hb : low b = low (b.take 5) ++ low (b.drop 5) := by rw [low, low, low, ← List.map_append, List.take_append_drop]
    rw [ha, hb, h1, hc.1.2, hc.2.1.2]
  · rw [(lit_mt h).1 ((mm_neg hc).1 hm)]

theorem mm_lit_eq {a b : List UInt8} (h : Lit a) (hn : ¬ In a) : MM a b ↔ b = a := by
  rw [mm_neg (fun hc => hn hc.1), lit_mt h]

/-- GlobPlain is true. -/
theorem law4 (a b : List UInt8) : F4 ((a, b, ()), ()) = some (true, ()) := by
  obtain ⟨a', h1, ha⟩ := F8_eq a
  obtain ⟨b', h2, hb⟩ := F8_eq b
  obtain ⟨f, f1, f2⟩ := flat_eq a' hb
  obtain ⟨x, x1, x2⟩ := F10_eq (p := [42]) (n := b') (by simp) hb
  obtain ⟨z, z1, z2⟩ := F10_eq (p := [37]) (n := b') (by simp) hb
  have hx : x = true := by
    rw [x2, mm_neg (fun h => by have := h.1.1; simp at this)]
    exact ⟨b', [], by simp, by simp [One], rfl⟩
  have hz : (z == f) = true := bb z2 (f2.trans (by
    rw [mm_neg (fun h => by have := h.1.1; simp at this), mt_single]
    simp [One]))
  subst hx
  have hzf : z = f := by simpa using hz
  subst hzf
  rcases scan_eq ha b' with hs | ⟨hs, hlit⟩
  · simp only [F4, h1, h2, f1, x1, z1, hz, hs, Option.bind_some, Bool.not_true, Bool.not_false, cond_true, cond_false]
  · obtain ⟨u, u1, u2⟩ := F10_eq (p := a') (n := a') ha ha
    obtain ⟨v, v1, v2⟩ := F10_eq (p := a') (n := b') ha hb
    have hu : u = true := u2.2 (mm_lit_self hlit)
    subst hu
    have l1 := F12_eq (s := a') (by omega)
    have l2 := F12_eq (s := b') (by omega)
    have l3 := F12_eq (s := a'.take 5) (by rw [List.length_take]; omega)
    have fin : ¬ In a' → (v == decide (a' = b')) = true := fun hn => bb v2 (by rw [decide_eq_true_eq, mm_lit_eq hlit hn]; exact eq_comm)
    have hlow : v = true → decide (low a' = low b') = true := fun hv => decide_eq_true (mm_lit_low hlit (v2.1 hv))
    by_cases h5 : 5 ≤ a'.length
    · have c5 : decide ((5 : Int) ≤ ((a'.length : Nat) : Int)) = true := decide_eq_true (by omega)
      by_cases hi : low (a'.take 5) = inbox
      · have ci := decide_eq_true hi
        cases v with
        | true => simp only [F4, h1, h2, f1, x1, z1, hz, hs, u1, v1, l1, l2, l3, live9, hlow rfl, c5, ci, Option.bind_some, Bool.not_true, Bool.not_false, Bool.true_or, cond_true, cond_false]
        | false => simp only [F4, h1, h2, f1, x1, z1, hz, hs, u1, v1, l3, live9, c5, ci, Option.bind_some, Bool.not_true, Bool.not_false, Bool.true_or, cond_true, cond_false]
      · have ci := decide_eq_false hi
        have hf := fin (fun h => hi h.2)
        cases v with
        | true => simp only [F4, h1, h2, f1, x1, z1, hz, hs, u1, v1, l1, l2, l3, live9, hlow rfl, c5, ci, hf, Option.bind_some, Bool.not_true, Bool.not_false, Bool.true_or, cond_true, cond_false]
        | false => simp only [F4, h1, h2, f1, x1, z1, hz, hs, u1, v1, l3, live9, c5, ci, hf, Option.bind_some, Bool.not_true, Bool.not_false, Bool.true_or, cond_true, cond_false]
    · have c5 : decide ((5 : Int) ≤ ((a'.length : Nat) : Int)) = false := decide_eq_false (by omega)
      have hf := fin (fun h => h5 h.1)
      cases v with
      | true => simp only [F4, h1, h2, f1, x1, z1, hz, hs, u1, v1, l1, l2, live9, hlow rfl, c5, hf, Option.bind_some, Bool.not_true, Bool.not_false, Bool.or_true, cond_true, cond_false]
      | false => simp only [F4, h1, h2, f1, x1, z1, hz, hs, u1, v1, live9, c5, hf, Option.bind_some, Bool.not_true, Bool.not_false, Bool.or_true, cond_true, cond_false]

end Go.Gl
