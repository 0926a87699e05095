/- The reference's parts of a kind. -/
import Derived.Test.YtnhjmcedpcpdoaaDoorMkB
import Derived.Test.YtnhjmcedpcpdoaaDoorMiq8
import Derived.Lib.ValidLaws
import Derived.Shelf.Unicode.DecodeSlow
import Derived.Test.YtnhjmcedpcpdoaaDoorMiq6
namespace Go.Mi
open Go Go.Ev
set_option maxRecDepth 100000

theorem fst_none (c : UInt8) : ∀ l : List UInt8, fst c l = none ↔ c ∉ l
  | [] => by simp [fst]
  | b :: t => by
    rw [fst]
    by_cases h : b = c
    · rw [if_pos h]; simp [h]
    · rw [if_neg h, Option.map_eq_none_iff, fst_none c t, List.mem_cons]
      exact ⟨fun h1 h2 => h2.elim (fun h3 => h h3.symm) h1, fun h1 h2 => h1 (.inr h2)⟩

theorem index_mem (l : List UInt8) (c : UInt8) : decide ((0 : Int) ≤ Lib.indexByte l c) = decide (c ∈ l) := by
  rw [decide_eq_decide, indexByte_fst]
  have := fst_none c l
  cases h : fst c l with
  | none => simp [this.1 h]
  | some k =>
    rw [h] at this
    simp at this
    simp [this]

/-- one letter against all that a token may not have -/
theorem bad25 (s : List UInt8) (i : Nat) (a : UInt8) (hi : i < s.length) (ha : s.getD i 0 = a) : L25_1 ((s, (i : Int), (0 : Int), ()), ()) = some (if a ∈ bads then .inr (((i : Int), ()), ()) else .inl ((s, (i : Int), ()), ())) := by
  obtain ⟨r, h1, rfl⟩ := loop_ind (f := B25_1)
    (I := fun p => ∃ k : Nat, p = ((s, (i : Int), (k : Int), ()), ()) ∧ k ≤ 15 ∧ a ∉ bads.take k)
    (μ := fun p => 15 - p.1.2.2.1.toNat)
    (Q := fun r => r = if a ∈ bads then .inr (((i : Int), ()), ()) else .inl ((s, (i : Int), ()), ()))
    (step := fun p hp => by
      obtain ⟨k, rfl, g1, g2⟩ := hp
      by_cases hk : k < 15
      · have hw := w64_nat (show k < 9223372036854775807 by omega)
        have e1 : decide ((k : Int) < 15) = true := decide_eq_true (by omega)
        have e2 : decide ((0 : Int) ≤ (k : Int)) = true := decide_eq_true (by omega)
        have hkb : k < bads.length := hk
        have hg : List.getD ([40, 41, 60, 62, 64, 44, 59, 58, 92, 34, 47, 91, 93, 63, 61]:List UInt8) k 0 = bads[k]'hkb := by
          show bads.getD k 0 = _
          rw [List.getD_eq_getElem?_getD, List.getElem?_eq_getElem hkb]; rfl
        by_cases h : bads[k]'hkb = a
        · refine .inr ⟨.inr (((i : Int), ()), ()), ?_, ?_⟩
          · simp only [B25_1, e1, e2, Bool.and_self, cond_true, nat_lt, nat_nn, hi, decide_true, Int.toNat_natCast, hg, ha, decide_eq_true h]
          · rw [if_pos (by rw [← h]; exact List.getElem_mem _)]
        · refine .inl ⟨_, ?_, ⟨k + 1, rfl, hk, ?_⟩, ?_⟩
          · simp only [B25_1, e1, e2, Bool.and_self, cond_true, cond_false, nat_lt, nat_nn, hi, decide_true, Int.toNat_natCast, hg, ha, decide_eq_false h, hw]
          · rw [List.take_succ_eq_append_getElem hkb, List.mem_append, List.mem_singleton]
            exact fun h' => h'.elim g2 fun h2 => h h2.symm
          · show 15 - ((k + 1 : Nat) : Int).toNat < 15 - (k : Int).toNat
            omega
      · have e1 : decide ((k : Int) < 15) = false := decide_eq_false (by omega)
        refine .inr ⟨.inl ((s, (i : Int), ()), ()), ?_, ?_⟩
        · simp only [B25_1, e1, cond_false]
        · rw [List.take_of_length_le (by show 15 ≤ k; omega)] at g2
          rw [if_neg g2])
    (p := ((s, (i : Int), (0 : Int), ()), ())) ⟨0, rfl, Nat.zero_le _, by simp⟩ (by
      have := FUEL_big
      show 15 - (0 : Int).toNat < FUEL
      omega)
  exact h1

theorem tkc_eq (a : UInt8) : tkc a = ((decide (33 ≤ a.toNat) && decide (a.toNat ≤ 126)) && !decide (a ∈ bads)) := by
  unfold tkc
  rw [index_mem]
  congr 1
  by_cases h1 : a.toNat < 33
  · rw [decide_eq_true h1, decide_eq_false (show ¬ 33 ≤ a.toNat by omega)]; rfl
  · rw [decide_eq_false h1, decide_eq_true (show 33 ≤ a.toNat by omega)]
    by_cases h2 : 126 < a.toNat
    · rw [decide_eq_true h2, decide_eq_false (show ¬ a.toNat ≤ 126 by omega)]; rfl
    · rw [decide_eq_false h2, decide_eq_true (show a.toNat ≤ 126 by omega)]; rfl

/-- the reference's token -/
theorem F25_eq (s : List UInt8) (n : Nat) (hs : s.length ≤ 8000000) (hn : n ≤ s.length) : F25 ((s, (n : Int), ()), ()) = some (((n + tk (s.drop n) : Nat) : Int), ()) := by
  obtain ⟨r, h1, h2⟩ := loop_ind (f := B25_0)
    (I := fun p => ∃ i : Nat, p = ((s, (i : Int), ()), ()) ∧ i ≤ s.length ∧ n + tk (s.drop n) = i + tk (s.drop i))
    (μ := fun p => s.length - p.1.2.1.toNat)
    (Q := fun r => r = .inl ((((n + tk (s.drop n) : Nat) : Int), ()), ()) ∨ r = .inr ((((n + tk (s.drop n) : Nat) : Int), ()), ()))
    (step := fun p hp => by
      obtain ⟨i, rfl, g, g2⟩ := hp
      by_cases hlt : i < s.length
      · have hw := w64_nat (show i < 9223372036854775807 by omega)
        obtain ⟨a, ha, hd⟩ := drop_get hlt
        have hb := bad25 s i a hlt ha
        rw [hd, tk_cons, tkc_eq] at g2
        have z1 : UInt8.toNat 33 = 33 := rfl
        have z2 : UInt8.toNat 126 = 126 := rfl
        cases hc : (decide (33 ≤ a.toNat) && decide (a.toNat ≤ 126))
        · rw [hc, Bool.false_and, if_neg (by decide), Nat.add_zero] at g2
          refine .inr ⟨.inl (((i : Int), ()), ()), ?_, .inl (by rw [g2])⟩
          simp only [B25_0, nat_lt, nat_nn, hlt, decide_true, Bool.and_self, Bool.true_and, cond_true, cond_false, Bool.true_or, Int.toNat_natCast, ha, z1, z2, hc]
        · rw [hc, Bool.true_and] at g2
          by_cases hm : a ∈ bads
          · rw [if_pos hm] at hb
            rw [decide_eq_true hm, if_neg (by decide), Nat.add_zero] at g2
            refine .inr ⟨.inr (((i : Int), ()), ()), ?_, .inr (by rw [g2])⟩
            simp only [B25_0, nat_lt, nat_nn, hlt, decide_true, Bool.and_self, Bool.true_and, cond_true, cond_false, Bool.true_or, Int.toNat_natCast, ha, z1, z2, hc, hb, Option.bind_some]
          · rw [if_neg hm] at hb
            rw [decide_eq_false hm, if_pos (by decide)] at g2
            refine .inl ⟨_, ?_, ⟨i + 1, rfl, hlt, by omega⟩, ?_⟩
            · simp only [B25_0, nat_lt, nat_nn, hlt, decide_true, Bool.and_self, Bool.true_and, cond_true, cond_false, Bool.true_or, Int.toNat_natCast, ha, z1, z2, hc, hb, Option.bind_some, hw]
            · show s.length - ((i + 1 : Nat) : Int).toNat < s.length - (i : Int).toNat
              omega
      · have : i = s.length := by omega
        subst this
        rw [List.drop_length] at g2
        have z : tk [] = 0 := rfl
        rw [z, Nat.add_zero] at g2
        refine .inr ⟨.inl (((s.length : Int), ()), ()), ?_, .inl (by rw [g2])⟩
        have e : decide ((s.length : Int) < (s.length : Int)) = false := decide_eq_false (by omega)
        simp only [B25_0, e, Bool.and_false, Bool.false_and, Bool.not_false, Bool.or_true, cond_true, cond_false])
    (p := ((s, (n : Int), ()), ())) ⟨n, rfl, hn, rfl⟩ (by
      have := FUEL_big
      show s.length - (n : Int).toNat < FUEL
      omega)
  have h1' : L25_0 ((s, (n : Int), ()), ()) = some r := h1
  simp only [F25, h1', Option.bind_some]
  rcases h2 with rfl | rfl <;> rfl

/-- how many blanks a text begins with -/
def nb (s : List UInt8) : Nat := (s.takeWhile bl).length

theorem nb_cons (a : UInt8) (t : List UInt8) : nb (a :: t) = if bl a = true then nb t + 1 else 0 := by
  unfold nb
  rw [List.takeWhile_cons]
  split <;> simp

theorem nb_le (s : List UInt8) : nb s ≤ s.length := (List.takeWhile_prefix _).length_le

theorem drop_nb : ∀ s : List UInt8, s.drop (nb s) = ltr s
  | [] => rfl
  | a :: t => by
    rw [nb_cons]
    unfold ltr
    rw [List.dropWhile_cons]
    by_cases h : bl a = true
    · rw [if_pos h, if_pos h, List.drop_succ_cons, drop_nb t]; rfl
    · rw [if_neg h, if_neg h]; rfl

theorem F39_eq (c : UInt8) : F39 ((c, ()), ()) = some (bl c, ()) := rfl

/-- the reference's blanks -/
theorem F27_eq (s : List UInt8) (n : Nat) (hs : s.length ≤ 8000000) (hn : n ≤ s.length) : F27 ((s, (n : Int), ()), ()) = some (((n + nb (s.drop n) : Nat) : Int), ()) := by
  obtain ⟨r, h1, rfl⟩ := loop_ind (f := B27_0)
    (I := fun p => ∃ i : Nat, p = ((s, (i : Int), ()), ()) ∧ i ≤ s.length ∧ n + nb (s.drop n) = i + nb (s.drop i))
    (μ := fun p => s.length - p.1.2.1.toNat)
    (Q := fun r => r = ((((n + nb (s.drop n) : Nat) : Int), ()), ()))
    (step := fun p hp => by
      obtain ⟨i, rfl, g, g2⟩ := hp
      by_cases hlt : i < s.length
      · have hw := w64_nat (show i < 9223372036854775807 by omega)
        obtain ⟨a, ha, hd⟩ := drop_get hlt
        rw [hd, nb_cons] at g2
        cases hb : bl a
        · rw [hb, if_neg (by decide), Nat.add_zero] at g2
          refine .inr ⟨(((i : Int), ()), ()), ?_, by rw [g2]⟩
          simp only [B27_0, nat_lt, nat_nn, hlt, decide_true, Bool.and_self, cond_true, cond_false, Bool.true_or, Int.toNat_natCast, ha, F39_eq, hb, Option.bind_some]
        · rw [hb, if_pos rfl] at g2
          refine .inl ⟨_, ?_, ⟨i + 1, rfl, hlt, by omega⟩, ?_⟩
          · simp only [B27_0, nat_lt, nat_nn, hlt, decide_true, Bool.and_self, cond_true, cond_false, Bool.true_or, Int.toNat_natCast, ha, F39_eq, hb, Option.bind_some, hw]
          · show s.length - ((i + 1 : Nat) : Int).toNat < s.length - (i : Int).toNat
            omega
      · have : i = s.length := by omega
        subst this
        rw [List.drop_length] at g2
        have z : nb [] = 0 := rfl
        rw [z, Nat.add_zero] at g2
        refine .inr ⟨(((s.length : Int), ()), ()), ?_, by rw [g2]⟩
        have e : decide ((s.length : Int) < (s.length : Int)) = false := decide_eq_false (by omega)
        simp only [B27_0, e, Bool.and_false, Bool.not_false, Bool.or_true, cond_true, cond_false])
    (p := ((s, (n : Int), ()), ())) ⟨n, rfl, hn, rfl⟩ (by
      have := FUEL_big
      show s.length - (n : Int).toNat < FUEL
      omega)
  have h1' : L27_0 ((s, (n : Int), ()), ()) = some ((((n + nb (s.drop n) : Nat) : Int), ()), ()) := h1
  simp only [F27, h1', Option.bind_some]

/-- the reference's small letters -/
theorem F26_eq (s : List UInt8) (hs : s.length ≤ 8000000) : F26 ((s, ()), ()) = some (s.map lowc, ()) := by
  have hF := FUEL_big
  have h := walk_listI (f := B26_0) (fun (b : List UInt8) i => ((s, b, (i : Int), ()), ())) s (fun a b => .inl (b ++ [lowc a])) (fun b => ((b, ()), ())) (fun b i => b.length = i) (b := [])
    (fun b i a hI hi ha => .inl ⟨_, rfl, by rw [List.length_append, hI]; rfl, by
      have hw := w64_nat (show i < 9223372036854775807 by omega)
      have hg := ha 0
      have hf : ∀ x : UInt8, fits (b.length + ([x] : List UInt8).length) = true := fun x => decide_eq_true (by simp; omega)
      have z1 : UInt8.toNat 65 = 65 := rfl
      have z2 : UInt8.toNat 90 = 90 := rfl
      unfold lowc
      by_cases h1 : 65 ≤ a.toNat
      · by_cases h2 : a.toNat ≤ 90
        · simp only [B26_0, nat_lt, nat_nn, hi, decide_true, Bool.and_self, cond_true, Int.toNat_natCast, hg, z1, z2, h1, h2, Option.bind_some, hf, hw, and_self, if_true]
        · simp only [B26_0, nat_lt, nat_nn, hi, decide_true, decide_false, Bool.and_self, Bool.and_false, cond_true, cond_false, Int.toNat_natCast, hg, z1, z2, h1, h2, Option.bind_some, hf, hw, and_false, if_false]
      · simp only [B26_0, nat_lt, nat_nn, hi, decide_true, decide_false, Bool.and_self, Bool.false_and, cond_true, cond_false, Int.toNat_natCast, hg, z1, z2, h1, Option.bind_some, hf, hw, false_and, if_false]⟩)
    (fun b _ => by simp only [B26_0, Int.lt_irrefl, decide_false, cond_false]) (by omega) rfl
  rw [foldS_push] at h
  have h' : L26_0 ((s, ([]:List UInt8), (0:Int), ()), ()) = some ((s.map lowc, ()), ()) := h
  simp only [F26, h', Option.bind_some]

/-- the reference's trim -/
theorem F24_eq (s : List UInt8) (hs : s.length ≤ 8000000) : F24 ((s, ()), ()) = some (trm s, ()) := by
  have hltr : L24_0 ((s, ()), ()) = some ((ltr s, ()), ()) := by
    obtain ⟨r, h1, rfl⟩ := loop_ind (f := B24_0)
      (I := fun p => ∃ t : List UInt8, p = ((t, ()), ()) ∧ t.length ≤ s.length ∧ ltr t = ltr s)
      (μ := fun p => p.1.1.length)
      (Q := fun r => r = ((ltr s, ()), ()))
      (step := fun p hp => by
        obtain ⟨t, rfl, g, g2⟩ := hp
        cases t with
        | nil =>
          refine .inr ⟨(([], ()), ()), rfl, ?_⟩
          rw [← g2]; rfl
        | cons a t =>
          have e1 : decide ((0 : Int) < ((a :: t).length : Int)) = true := decide_eq_true (by simp)
          have e2 : decide ((1 : Int) ≤ ((a :: t).length : Int)) = true := decide_eq_true (by simp only [List.length_cons]; omega)
          have e3 : List.take ((a :: t).length - 1) (List.drop 1 (a :: t)) = t := by simp
          have hb : ltr (a :: t) = if bl a = true then ltr t else a :: t := by unfold ltr; rw [List.dropWhile_cons]
          cases hc : bl a
          · refine .inr ⟨((a :: t, ()), ()), ?_, ?_⟩
            · simp only [B24_0, e1, Bool.true_or, cond_true, List.getD_cons_zero, F39_eq, hc, Option.bind_some, cond_false]
            · rw [← g2, hb, hc]; rfl
          · refine .inl ⟨((t, ()), ()), ?_, ⟨t, rfl, by simp only [List.length_cons] at g; omega, ?_⟩, by show t.length < (a :: t).length; simp⟩
            · simp only [B24_0, e1, e2, e3, Bool.true_or, cond_true, List.getD_cons_zero, F39_eq, hc, Option.bind_some, le_len (Nat.le_refl _), Bool.and_self, Int.toNat_natCast]
            · rw [← g2, hb, hc]; rfl)
      (p := ((s, ()), ())) ⟨s, rfl, Nat.le_refl _, rfl⟩ (by have := FUEL_big; show s.length < FUEL; omega)
    exact h1
  have hlen : (ltr s).length ≤ s.length := (List.dropWhile_suffix _).length_le
  have hrtr : ∀ u : List UInt8, u.length ≤ 8000000 → L24_1 ((u, ()), ()) = some ((rtr u, ()), ()) := fun u hu => by
    obtain ⟨r, h1, rfl⟩ := loop_ind (f := B24_1)
      (I := fun p => ∃ t : List UInt8, p = ((t, ()), ()) ∧ t.length ≤ u.length ∧ rtr t = rtr u)
      (μ := fun p => p.1.1.length)
      (Q := fun r => r = ((rtr u, ()), ()))
      (step := fun p hp => by
        obtain ⟨t, rfl, g, g2⟩ := hp
        by_cases ht : t = []
        · subst ht
          refine .inr ⟨(([], ()), ()), rfl, ?_⟩
          rw [← g2]; rfl
        · obtain ⟨x, a, rfl⟩ : ∃ x a, t = x ++ [a] := ⟨t.dropLast, t.getLast ht, (List.dropLast_concat_getLast ht).symm⟩
          have hl : (x ++ [a]).length = x.length + 1 := by simp
          have e1 : decide ((0 : Int) < ((x ++ [a]).length : Int)) = true := decide_eq_true (by omega)
          have w : w64 (((x ++ [a]).length : Int) - 1) = (x.length : Int) := by rw [w64_id (by omega) (by omega)]; omega
          have e2 : decide ((x.length : Int) < ((x ++ [a]).length : Int)) = true := decide_eq_true (by omega)
          have e3 : decide ((x.length : Int) ≤ ((x ++ [a]).length : Int)) = true := decide_eq_true (by omega)
          have e4 : decide ((0 : Int) ≤ (x.length : Int)) = true := decide_eq_true (by omega)
          have e5 : (x ++ [a]).getD x.length 0 = a := by
            rw [List.getD_eq_getElem?_getD, List.getElem?_append_right (Nat.le_refl _)]; simp
          have e6 : (x ++ [a]).take x.length = x := by rw [List.take_append]; simp
          have hb := rtr_snoc x a
          cases hc : bl a
          · refine .inr ⟨((x ++ [a], ()), ()), ?_, ?_⟩
            · simp only [B24_1, e1, w, e2, e4, Bool.and_self, Bool.true_or, cond_true, Int.toNat_natCast, e5, F39_eq, hc, Option.bind_some, cond_false]
            · rw [← g2, hb, hc]; rfl
          · refine .inl ⟨((x, ()), ()), ?_, ⟨x, rfl, by omega, ?_⟩, by show x.length < (x ++ [a]).length; omega⟩
            · simp only [B24_1, e1, w, e2, e3, e4, Bool.and_self, Bool.true_or, cond_true, Int.toNat_natCast, e5, e6, F39_eq, hc, Option.bind_some]
            · rw [← g2, hb, hc]; rfl)
      (p := ((u, ()), ())) ⟨u, rfl, Nat.le_refl _, rfl⟩ (by have := FUEL_big; show u.length < FUEL; omega)
    exact h1
  have h2 := hrtr (ltr s) (by omega)
  simp only [F24, hltr, Option.bind_some, h2]
  rfl

end Go.Mi

namespace Go.Mi
open Go Go.Ev
set_option maxRecDepth 100000

theorem enc_rune (r : Nat) (h1 : r ≤ 1114111) (h2 : r < 55296 ∨ 57344 ≤ r) : enc r = Lib.encodeRune (r : Int) := by
  have v : Utf8.valid (r : Int) = true := by simp [Utf8.valid]; omega
  have hb : ∀ (x : Int) (n : Nat), x = (n : Int) → UInt8.ofNat n = x.toNat.toUInt8 := fun x n h => by subst h; simp
  unfold enc Lib.encodeRune
  by_cases c1 : r < 128
  · rw [Lib.encodeRuneZ_one (by omega) (by omega)]
    simp [Utf8.encode, v, c1]
  · by_cases c2 : r < 2048
    · rw [Lib.encodeRuneZ_two (by omega) (by omega)]
      simp only [List.map_cons, List.map_nil]
      rw [← hb (192 + (r : Int) / 64) (192 + r / 64) (by omega), ← hb (128 + (r : Int) % 64) (128 + r % 64) (by omega)]
      simp [Utf8.encode, v, c1, c2]
    · by_cases c3 : r < 65536
      · rw [Lib.encodeRuneZ_three (by omega)]
        simp only [List.map_cons, List.map_nil]
        rw [← hb (224 + (r : Int) / 4096) (224 + r / 4096) (by omega), ← hb (128 + (r : Int) / 64 % 64) (128 + r / 64 % 64) (by omega), ← hb (128 + (r : Int) % 64) (128 + r % 64) (by omega)]
        simp [Utf8.encode, v, c1, c2, c3]
      · rw [Lib.encodeRuneZ_four (by omega) (by omega)]
        simp only [List.map_cons, List.map_nil]
        rw [← hb (240 + (r : Int) / 262144) (240 + r / 262144) (by omega), ← hb (128 + (r : Int) / 4096 % 64) (128 + r / 4096 % 64) (by omega), ← hb (128 + (r : Int) / 64 % 64) (128 + r / 64 % 64) (by omega), ← hb (128 + (r : Int) % 64) (128 + r % 64) (by omega)]
        simp [Utf8.encode, v, c1, c2, c3]

theorem dec_valid (l : List UInt8) : (Lib.decodeL l).1 ≤ 1114111 ∧ ((Lib.decodeL l).1 < 55296 ∨ 57344 ≤ (Lib.decodeL l).1) := by
  have k0 := (l.getD 0 0).toNat_lt
  rw [Lib.decodeL_N]
  rcases Lib.decodeN_shape l.length (l.getD 0 0).toNat (l.getD 1 0).toNat (l.getD 2 0).toNat (l.getD 3 0).toNat with ⟨c, e⟩ | ⟨c1, c2, c3, cv, e⟩ | ⟨c1, c2, c3, c4, cv, cs, e⟩ | ⟨c1, c2, c3, c4, c5, cv, cw, e⟩ | e
  all_goals (rw [e]; dsimp only; omega)

theorem enc_take (l : List UInt8) (hne : l ≠ []) (hv : ¬ ((Lib.decodeL l).1 = 65533 ∧ (Lib.decodeL l).2 = 1)) : enc (Lib.decodeL l).1 = l.take (Lib.decodeL l).2 := by
  rw [← Lib.encode_decode l hne hv]
  exact enc_rune _ (dec_valid l).1 (dec_valid l).2

theorem getD_take (l : List UInt8) (w i : Nat) : (l.take w).getD i 0 = if i < w then l.getD i 0 else 0 := by
  rw [List.getD_eq_getElem?_getD, List.getD_eq_getElem?_getD, List.getElem?_take]
  split <;> rfl

/-- a letter, alone, is the same letter -/
theorem dec_take (l : List UInt8) (hne : l ≠ []) : Lib.decodeL (l.take (Lib.decodeL l).2) = Lib.decodeL l := by
  have hl : 0 < l.length := List.length_pos_iff.2 hne
  have k0 := (l.getD 0 0).toNat_lt
  have hN := Lib.decodeL_N l
  rcases Lib.decodeN_shape l.length (l.getD 0 0).toNat (l.getD 1 0).toNat (l.getD 2 0).toNat (l.getD 3 0).toNat with ⟨c, e⟩ | ⟨c1, c2, c3, cv, e⟩ | ⟨c1, c2, c3, c4, cv, cs, e⟩ | ⟨c1, c2, c3, c4, c5, cv, cw, e⟩ | e
  · rw [e] at hN
    rw [hN, Lib.decodeL_N]
    simp only [getD_take, Nat.lt_one_iff, if_true, Lib.decodeN, c]
  · rw [e] at hN
    rw [hN, Lib.decodeL_N]
    have hm : (l.take 2).length = 2 := by rw [List.length_take]; omega
    simp only [getD_take, hm, Lib.decodeN, show (0 : Nat) < 2 from by omega, show (1 : Nat) < 2 from by omega, if_true]
    rw [if_neg (by omega), if_pos ⟨c1, trivial, c3⟩, if_pos cv]
  · rw [e] at hN
    rw [hN, Lib.decodeL_N]
    have hm : (l.take 3).length = 3 := by rw [List.length_take]; omega
    simp only [getD_take, hm, Lib.decodeN, show (0 : Nat) < 3 from by omega, show (1 : Nat) < 3 from by omega, show (2 : Nat) < 3 from by omega, if_true]
    rw [if_neg (by omega), if_neg (by omega), if_pos ⟨c1, ⟨trivial, c3⟩, trivial, c4⟩, if_pos ⟨cv, by omega⟩]
  · rw [e] at hN
    rw [hN, Lib.decodeL_N]
    have hm : (l.take 4).length = 4 := by rw [List.length_take]; omega
    simp only [getD_take, hm, Lib.decodeN, show (0 : Nat) < 4 from by omega, show (1 : Nat) < 4 from by omega, show (2 : Nat) < 4 from by omega, show (3 : Nat) < 4 from by omega, if_true]
    rw [if_neg (by omega), if_neg (by omega), if_neg (by omega), if_pos ⟨c1, ⟨trivial, c3⟩, ⟨trivial, c4⟩, trivial, c5⟩, if_pos ⟨cv, by omega⟩]
  · rw [e] at hN
    rw [hN, Lib.decodeL_N]
    have hm : (l.take 1).length = 1 := by rw [List.length_take]; omega
    have h128 : ¬ (l.getD 0 0).toNat < 128 := fun h => by
      have : Lib.decodeN l.length (l.getD 0 0).toNat (l.getD 1 0).toNat (l.getD 2 0).toNat (l.getD 3 0).toNat = ((l.getD 0 0).toNat, 1) := by
        unfold Lib.decodeN; rw [if_pos h]
      rw [e] at this
      have := congrArg Prod.fst this
      simp only at this
      omega
    simp only [getD_take, hm, Lib.decodeN, Nat.lt_one_iff, if_true]
    rw [if_neg h128, if_neg (by omega), if_neg (by omega), if_neg (by omega)]

theorem dec_low (l : List UInt8) : ((l.getD 0 0).toNat < 128 → Lib.decodeL l = ((l.getD 0 0).toNat, 1)) ∧ (128 ≤ (l.getD 0 0).toNat → 128 ≤ (Lib.decodeL l).1) := by
  have k0 := (l.getD 0 0).toNat_lt
  have hN := Lib.decodeL_N l
  refine ⟨fun h => ?_, fun h => ?_⟩
  · rw [hN]; unfold Lib.decodeN; rw [if_pos h]
  · rcases Lib.decodeN_shape l.length (l.getD 0 0).toNat (l.getD 1 0).toNat (l.getD 2 0).toNat (l.getD 3 0).toNat with ⟨c, e⟩ | ⟨c1, c2, c3, cv, e⟩ | ⟨c1, c2, c3, c4, cv, cs, e⟩ | ⟨c1, c2, c3, c4, c5, cv, cw, e⟩ | e
    all_goals (rw [hN, e]; dsimp only; omega)

/-- what a letter is of which the first byte is known -/
theorem letter_is (r : List UInt8) (hne : r ≠ []) (b : UInt8) (hb : b.toNat < 128) : decide (r.take (Lib.decodeL r).2 = [b]) = decide (((Lib.decodeL r).1 : Int) = (b.toNat : Int)) := by
  rw [decide_eq_decide]
  obtain ⟨a, t, rfl⟩ : ∃ a t, r = a :: t := by
    cases r with
    | nil => exact absurd rfl hne
    | cons a t => exact ⟨a, t, rfl⟩
  obtain ⟨h1, h2⟩ := dec_low (a :: t)
  simp only [List.getD_cons_zero] at h1 h2
  by_cases ha : a.toNat < 128
  · rw [h1 ha]
    simp only [List.take_succ_cons, List.take_zero, List.cons.injEq, and_true]
    exact ⟨fun h => by rw [h], fun h => UInt8.toNat_inj.1 (by omega)⟩
  · have h3 := h2 (by omega)
    constructor
    · intro h
      exfalso
      have hw := Lib.decodeL_width (a :: t)
      obtain ⟨w, hw'⟩ : ∃ w, (Lib.decodeL (a :: t)).2 = w + 1 := ⟨(Lib.decodeL (a :: t)).2 - 1, by omega⟩
      rw [hw', List.take_succ_cons] at h
      simp only [List.cons.injEq] at h
      rw [h.1] at ha
      omega
    · intro h; omega

/-- the reference's Plain is the program's -/
theorem F41_eq (r : List UInt8) (hne : r ≠ []) (hr : r.length ≤ 8000000) : F41 ((r.take (Lib.decodeL r).2, ()), ()) = some (pln (Lib.decodeL r).1 (Lib.decodeL r).2, ()) := by
  obtain ⟨h1, h2⟩ := dec_low r
  have hd := dec_take r hne
  have hw := Lib.decodeL_width r
  have hle := Lib.decodeL_le r hne
  have hlen : (r.take (Lib.decodeL r).2).length = (Lib.decodeL r).2 := by rw [List.length_take]; omega
  have hne' : r.take (Lib.decodeL r).2 ≠ [] := fun h => by rw [h] at hlen; simp at hlen; omega
  have hv : Lib.validD (r.take (Lib.decodeL r).2) = !decide ((Lib.decodeL r).1 = 65533 ∧ (Lib.decodeL r).2 = 1) := by
    rw [Lib.validD_step _ hne', hd, List.drop_eq_nil_of_le (by omega), Lib.validD_nil]
    by_cases h : (Lib.decodeL r).1 = 65533 ∧ (Lib.decodeL r).2 = 1
    · rw [if_pos h, decide_eq_true h]; rfl
    · rw [if_neg h, decide_eq_false h]; rfl
  have h3 : ¬ ((Lib.decodeL r).1 = 65533 ∧ (Lib.decodeL r).2 = 1) → (Lib.decodeL r).1 = 65533 → (Lib.decodeL r).2 = 3 := fun h h' => by
    have e := enc_take r hne h
    rw [h'] at e
    have := congrArg List.length e
    rw [hlen] at this
    have e3 : (enc 65533).length = 3 := by decide
    omega
  have e0 : (r.take (Lib.decodeL r).2).getD 0 0 = r.getD 0 0 := by rw [getD_take, if_pos (by omega)]
  have f1 : decide ((r.take (Lib.decodeL r).2).length ≤ 9223372036854775807) = true := decide_eq_true (by omega)
  have f2 : decide ((0 : Int) < (((r.take (Lib.decodeL r).2).length : Nat) : Int)) = true := decide_eq_true (by omega)
  have z : UInt8.toNat 32 = 32 := rfl
  unfold F41
  simp only [f1, f2, Bool.true_or, cond_true, hv, e0, z]
  generalize Lib.decodeL r = d at *
  generalize r.getD 0 0 = a at *
  have h127 : decide (a = (127 : UInt8)) = decide (a.toNat = 127) := by
    rw [decide_eq_decide]
    exact ⟨fun h => by rw [h]; rfl, fun h => UInt8.toNat_inj.1 h⟩
  rw [h127]
  congr 2
  unfold pln
  by_cases ha : a.toNat < 128
  · rw [h1 ha]
    by_cases q1 : 32 ≤ a.toNat
    · by_cases q2 : a.toNat = 127
      · simp [q1, q2]
      · have q3 : ¬ (a.toNat : Int) = 127 := by omega
        have q4 : ¬ (a.toNat : Int) = 65533 := by omega
        have q5 : (32 : Int) ≤ (a.toNat : Int) := by omega
        have q6 : ¬ a.toNat = 65533 := by omega
        simp [q1, q2, q3, q4, q5, q6]
    · have q5 : ¬ (32 : Int) ≤ (a.toNat : Int) := by omega
      simp [q1, q5]
  · have h4 := h2 (by omega)
    have q1 : 32 ≤ a.toNat := by omega
    have q2 : ¬ a.toNat = 127 := by omega
    have q3 : (32 : Int) ≤ (d.1 : Int) := by omega
    have q4 : ¬ (d.1 : Int) = 127 := by omega
    rw [decide_eq_true q1, decide_eq_false q2, decide_eq_true q3, decide_eq_false q4]
    by_cases hbad : d.1 = 65533 ∧ d.2 = 1
    · have q5 : (d.1 : Int) = 65533 := by omega
      have q6 : ¬ (d.2 : Int) = 3 := by omega
      rw [decide_eq_true hbad, decide_eq_true q5, decide_eq_false q6]; rfl
    · rw [decide_eq_false hbad]
      by_cases h5 : d.1 = 65533
      · have h6 := h3 hbad h5
        have q5 : (d.1 : Int) = 65533 := by omega
        have q6 : (d.2 : Int) = 3 := by omega
        rw [decide_eq_true q5, decide_eq_true q6]; rfl
      · have q5 : ¬ (d.1 : Int) = 65533 := by omega
        rw [decide_eq_false q5]; rfl

theorem pln_ok {r : List UInt8} (h : pln (Lib.decodeL r).1 (Lib.decodeL r).2 = true) : ¬ ((Lib.decodeL r).1 = 65533 ∧ (Lib.decodeL r).2 = 1) := fun h' => by
  rw [h'.1, h'.2] at h
  exact absurd h (by decide)

/-! letters -/
def ltsF : Nat → List UInt8 → List (List UInt8)
  | 0, _ => []
  | k + 1, r => if r = [] then [] else r.take (Lib.decodeL r).2 :: ltsF k (r.drop (Lib.decodeL r).2)

theorem ltsF_same : ∀ (k k' : Nat) (r : List UInt8), r.length ≤ k → r.length ≤ k' → ltsF k r = ltsF k' r
  | 0, k', r, h, _ => by
    have : r = [] := List.eq_nil_of_length_eq_zero (by omega)
    subst this
    cases k' <;> simp [ltsF]
  | k + 1, 0, r, _, h => by
    have : r = [] := List.eq_nil_of_length_eq_zero (by omega)
    subst this
    simp [ltsF]
  | k + 1, k' + 1, r, h, h' => by
    rw [ltsF, ltsF]
    by_cases hr : r = []
    · rw [if_pos hr, if_pos hr]
    · have := Lib.decodeL_width r
      have hl : 0 < r.length := List.length_pos_iff.2 hr
      rw [if_neg hr, if_neg hr, ltsF_same k k' _ (by simp; omega) (by simp; omega)]

def lts (r : List UInt8) : List (List UInt8) := ltsF r.length r

theorem lts_nil : lts [] = [] := rfl
theorem lts_step {r : List UInt8} (hr : r ≠ []) : lts r = r.take (Lib.decodeL r).2 :: lts (r.drop (Lib.decodeL r).2) := by
  have hl : 0 < r.length := List.length_pos_iff.2 hr
  have := Lib.decodeL_width r
  obtain ⟨n, hn⟩ : ∃ n, r.length = n + 1 := ⟨r.length - 1, by omega⟩
  unfold lts
  rw [hn, ltsF, if_neg hr, ltsF_same n _ _ (by simp; omega) (Nat.le_refl _)]

theorem lts_len : ∀ (n : Nat) (r : List UInt8), r.length ≤ n → (lts r).length ≤ r.length
  | n, r, h => by
    by_cases hr : r = []
    · subst hr; simp [lts_nil]
    · have := Lib.decodeL_width r
      have hl : 0 < r.length := List.length_pos_iff.2 hr
      cases n with
      | zero => omega
      | succ n =>
        have := lts_len n (r.drop (Lib.decodeL r).2) (by simp; omega)
        rw [List.length_drop] at this
        rw [lts_step hr, List.length_cons]
        omega

theorem goL (r : List UInt8) (hr : r ≠ []) : Lib.decodeGo ⟨r.toArray⟩ = Lib.decodeL r := by
  have hl : 0 < r.length := List.length_pos_iff.2 hr
  unfold Lib.decodeGo
  rw [if_neg (by show ¬ r.toArray.size = 0; simp; exact hr)]
  rfl

/-- the reference's letters -/
theorem F40_eq (s : List UInt8) (hs : s.length ≤ 8000000) : F40 ((s, ()), ()) = some ((), (lts s, ())) := by
  obtain ⟨r, h1, rfl⟩ := loop_ind (f := B40_0)
    (I := fun p => ∃ (t : List UInt8) (out : List (List UInt8)), p = ((t, (), ()), (out, ())) ∧ out.length + t.length ≤ s.length ∧ out ++ lts t = lts s)
    (μ := fun p => p.1.1.length)
    (Q := fun r => r = (((), ()), (lts s, ())))
    (step := fun p hp => by
      obtain ⟨t, out, rfl, g, g2⟩ := hp
      by_cases ht : t = []
      · subst ht
        refine .inr ⟨(((), ()), (out, ())), rfl, ?_⟩
        rw [← g2, lts_nil, List.append_nil]
      · have hl : 0 < t.length := List.length_pos_iff.2 ht
        have hw := Lib.decodeL_width t
        have hle := Lib.decodeL_le t ht
        have hgo := goL t ht
        rw [lts_step ht] at g2
        have e1 : decide ((0 : Int) < (t.length : Int)) = true := decide_eq_true (by omega)
        generalize Lib.decodeL t = d at *
        have e2 : decide ((0 : Int) ≤ (d.2 : Int)) = true := decide_eq_true (by omega)
        have e3 : decide ((d.2 : Int) ≤ (t.length : Int)) = true := decide_eq_true (by omega)
        have e4 : bytesOK (out.length + ([t.take d.2] : List (List UInt8)).length) 16 = true := decide_eq_true (by simp; omega)
        have e5 : List.take (t.length - d.2) (List.drop d.2 t) = t.drop d.2 := List.take_of_length_le (by simp)
        refine .inl ⟨((t.drop d.2, (), ()), (out ++ [t.take d.2], ())), ?_, ⟨_, _, rfl, by simp; omega, by rw [List.append_assoc]; exact g2⟩, by show (t.drop d.2).length < t.length; simp; omega⟩
        simp only [B40_0, e1, cond_true, hgo, e2, e3, Bool.and_self, Int.toNat_natCast, e4, Option.bind_some, le_len (Nat.le_refl _), e5])
    (p := ((s, (), ()), (([] : List (List UInt8)), ()))) ⟨s, [], rfl, by simp, rfl⟩ (by have := FUEL_big; show s.length < FUEL; omega)
  have h1' : L40_0 ((s, (), ()), (([] : List (List UInt8)), ())) = some (((), ()), (lts s, ())) := h1
  simp only [F40, h1', Option.bind_some]

end Go.Mi

namespace Go.Mi
open Go Go.Ev
set_option maxRecDepth 100000

theorem low_one {r : List UInt8} {b : Nat} (hb : b < 128) (h : (Lib.decodeL r).1 = b) : Lib.decodeL r = (b, 1) := by
  obtain ⟨h1, h2⟩ := dec_low r
  by_cases ha : (r.getD 0 0).toNat < 128
  · have := h1 ha
    rw [this] at h ⊢
    simp only at h
    rw [h]
  · have := h2 (by omega)
    omega

abbrev R28 := ((Unit × Unit) × ((List (List UInt8)) × Unit)) ⊕ (((List UInt8) × Int × Int × Unit) × Unit)

def Ans (U : List UInt8 × Int × Int) (v : List UInt8) (k e : Int) : Prop := (e = 0 ∧ U.2.2 = 0 ∧ v = U.1 ∧ k = U.2.1) ∨ (e ≠ 0 ∧ U.2.2 ≠ 0)

def Q28 (L : List (List UInt8)) (U : List UInt8 × Int × Int) (r : R28) : Prop :=
  (r = .inl (((), ()), (L, ())) ∧ U.2.2 ≠ 0) ∨ ∃ v k e, r = .inr ((v, k, e, ()), ()) ∧ Ans U v k e

theorem L28_ok (s : List UInt8) (hs : s.length ≤ 1100000) : ∃ r, L28_0 (((), ([]:List UInt8), (0:Int), (0:Int), ()), (lts s, ())) = some r ∧ Q28 (lts s) (unq s) r := by
  have hLl := lts_len s.length s (Nat.le_refl _)
  generalize hL : lts s = L at hLl ⊢
  generalize hU : unq s = U
  exact loop_ind (f := B28_0)
    (I := fun p => ∃ (i : Nat) (r out : List UInt8) (place : Int) (k pos : Nat), p = (((), out, (pos : Int), (i : Int), ()), (L, ())) ∧ L.drop i = lts r ∧ r.length ≤ k ∧ uq k r place false out pos = U ∧ 0 ≤ place ∧ (place = 0 ↔ i = 0) ∧ pos + r.length = s.length ∧ out.length ≤ pos)
    (μ := fun p => L.length - p.1.2.2.2.1.toNat)
    (Q := Q28 L U)
    (step := fun p hp => by
      obtain ⟨i, r, out, place, k, pos, rfl, g1, g2, g3, g4, g5, g6, g7⟩ := hp
      by_cases hr : r = []
      · subst hr
        rw [lts_nil] at g1
        have hi : ¬ i < L.length := fun h => by
          have := congrArg List.length g1
          simp at this
          omega
        refine .inr ⟨.inl (((), ()), (L, ())), ?_, .inl ⟨rfl, ?_⟩⟩
        · simp only [B28_0, nat_lt, hi, decide_false, cond_false]
        · rw [← g3, uq_nil]; simp
      · have hw := Lib.decodeL_width r
        have hle := Lib.decodeL_le r hr
        have hF41 := F41_eq r hr (by omega)
        have c34 := letter_is r hr 34 (by decide)
        have c92 := letter_is r hr 92 (by decide)
        have hpo := @pln_ok r
        have het := enc_take r hr
        have hlow := @low_one r 92 (by decide)
        have hlow34 := @low_one r 34 (by decide)
        rw [lts_step hr] at g1
        obtain ⟨k, rfl⟩ : ∃ j, k = j + 1 := ⟨k - 1, by have := List.length_pos_iff.2 hr; omega⟩
        rw [uq, if_neg hr] at g3
        have hi : i < L.length := by
          have := congrArg List.length g1
          simp only [List.length_drop, List.length_cons] at this
          omega
        have hxg : L.getD i [] = r.take (Lib.decodeL r).2 := by
          rw [List.getD_eq_getElem?_getD, ← Nat.add_zero i, ← List.getElem?_drop, g1]; rfl
        have hnx : L.drop (i + 1) = lts (r.drop (Lib.decodeL r).2) := by
          rw [← List.drop_drop, g1]; rfl
        have hxl : (r.take (Lib.decodeL r).2).length = (Lib.decodeL r).2 := by rw [List.length_take]; omega
        have hm : L.length - ((i + 1 : Nat) : Int).toNat < L.length - (i : Int).toNat := by omega
        generalize hd : Lib.decodeL r = d at *
        have z34 : ((UInt8.toNat 34 : Nat) : Int) = 34 := rfl
        have z92 : ((UInt8.toNat 92 : Nat) : Int) = 92 := rfl
        rw [z34] at c34
        rw [z92] at c92
        have w1 : w64 ((pos : Int) + (((r.take d.2).length : Nat) : Int)) = ((pos + d.2 : Nat) : Int) := by
          rw [hxl, w64_id (by omega) (by omega)]; omega
        have w2 := w64_nat (show i < 9223372036854775807 by omega)
        have zi : decide ((i : Int) = 0) = decide (place = 0) := by rw [decide_eq_decide]; omega
        have hfx : fits (out.length + (r.take d.2).length) = true := decide_eq_true (by rw [hxl]; omega)
        generalize hx : r.take d.2 = x at *
        cases hp0 : decide (place = 0)
        · have p0 : ¬ place = 0 := of_decide_eq_false hp0
          rw [if_neg p0] at g3
          cases hpl : pln d.1 d.2
          · rw [hp0, hpl, if_pos (by simp)] at g3
            refine .inr ⟨.inr (([], (i : Int), 4, ()), ()), ?_, .inr ⟨_, _, _, rfl, .inr ⟨by decide, by rw [← g3]; simp⟩⟩⟩
            simp only [B28_0, nat_lt, nat_nn, hi, decide_true, Bool.and_self, cond_true, Int.toNat_natCast, hxg, w1, Option.bind_some, Bool.true_or, zi, hp0, Bool.false_and, Bool.not_false, hF41, hpl]
          · rw [hp0, hpl, if_neg (by simp)] at g3
            cases h34 : decide ((d.1 : Int) = 34)
            · rw [h34] at c34 g3
              cases h92 : decide ((d.1 : Int) = 92)
              · rw [h92] at c92 g3
                rw [if_neg (by decide), if_neg (by decide), het (hpo hpl)] at g3
                refine .inl ⟨_, ?_, ⟨i + 1, r.drop d.2, out ++ x, place + 1, k, pos + d.2, rfl, hnx, by simp; omega, g3, by omega, by omega, by simp; omega, by simp [hxl]; omega⟩, hm⟩
                simp only [B28_0, nat_lt, nat_nn, hi, decide_true, Bool.and_self, cond_true, cond_false, Int.toNat_natCast, hxg, w1, Option.bind_some, Bool.true_or, zi, hp0, Bool.false_and, Bool.not_false, Bool.not_true, hF41, hpl, c34, c92, hfx, w2]
              · rw [h92] at c92 g3
                rw [if_pos (by decide)] at g3
                have hd92 := hlow (by have := of_decide_eq_true h92; omega)
                subst hd92
                have hd1 : (92, 1).2 = 1 := rfl
                simp only at *
                by_cases hr2 : r.drop 1 = []
                · rw [hr2, lts_nil] at hnx
                  have hend : i + 1 = L.length := by
                    have := congrArg List.length hnx
                    simp at this
                    omega
                  have e1 : decide (((i + 1 : Nat) : Int) = (L.length : Int)) = true := decide_eq_true (by omega)
                  rw [hr2, uq_nil] at g3
                  refine .inr ⟨.inr (([], ((i + 1 : Nat) : Int), 3, ()), ()), ?_, .inr ⟨_, _, _, rfl, .inr ⟨by decide, by rw [← g3]; simp⟩⟩⟩
                  simp only [B28_0, nat_lt, nat_nn, hi, decide_true, Bool.and_self, cond_true, cond_false, Int.toNat_natCast, hxg, w1, Option.bind_some, Bool.true_or, zi, hp0, Bool.false_and, Bool.not_false, Bool.not_true, hF41, hpl, c34, c92, w2, e1]
                · have c34' := letter_is (r.drop 1) hr2 34 (by decide)
                  have c92' := letter_is (r.drop 1) hr2 92 (by decide)
                  rw [z34] at c34'
                  rw [z92] at c92'
                  have hle2 := Lib.decodeL_le (r.drop 1) hr2
                  have hw2 := Lib.decodeL_width (r.drop 1)
                  have het2 := enc_take (r.drop 1) hr2
                  have hlow2 := @low_one (r.drop 1) 92 (by decide)
                  have hlow3 := @low_one (r.drop 1) 34 (by decide)
                  rw [lts_step hr2] at hnx
                  have hi2 : i + 1 < L.length := by
                    have := congrArg List.length hnx
                    simp only [List.length_drop, List.length_cons] at this
                    omega
                  have hxg2 : L.getD (i + 1) [] = (r.drop 1).take (Lib.decodeL (r.drop 1)).2 := by
                    rw [List.getD_eq_getElem?_getD, ← Nat.add_zero (i + 1), ← List.getElem?_drop, hnx]; rfl
                  have hnx2 : L.drop (i + 1 + 1) = lts ((r.drop 1).drop (Lib.decodeL (r.drop 1)).2) := by
                    rw [← List.drop_drop, hnx]; rfl
                  have hl1 : (r.drop 1).length = r.length - 1 := by simp
                  obtain ⟨k, rfl⟩ : ∃ j, k = j + 1 := ⟨k - 1, by have := List.length_pos_iff.2 hr2; omega⟩
                  rw [uq, if_neg hr2] at g3
                  have e1 : decide (((i + 1 : Nat) : Int) = (L.length : Int)) = false := decide_eq_false (by omega)
                  have w3 := w64_nat (show i + 1 < 9223372036854775807 by omega)
                  have w4 : w64 (((pos + 1 : Nat) : Int) + 1) = ((pos + 1 + 1 : Nat) : Int) := w64_nat (by omega)
                  have hxl2 : ((r.drop 1).take (Lib.decodeL (r.drop 1)).2).length = (Lib.decodeL (r.drop 1)).2 := by rw [List.length_take]; omega
                  have hm2 : L.length - ((i + 1 + 1 : Nat) : Int).toNat < L.length - (i : Int).toNat := by omega
                  have p1 : decide (place + 1 = 0) = false := decide_eq_false (by omega)
                  generalize hr1 : r.drop 1 = q at *
                  generalize hd2 : Lib.decodeL q = d2 at *
                  have hfx2 : fits (out.length + (q.take d2.2).length) = true := decide_eq_true (by rw [hxl2]; omega)
                  generalize hx2 : q.take d2.2 = x2 at *
                  have hlast : (d2 = (34, 1) ∨ d2 = (92, 1)) → ∃ q', B28_0 (((), out, (pos : Int), (i : Int), ()), (L, ())) = some (.inl q') ∧ (∃ (i : Nat) (r out : List UInt8) (place : Int) (k pos : Nat), q' = (((), out, (pos : Int), (i : Int), ()), (L, ())) ∧ L.drop i = lts r ∧ r.length ≤ k ∧ uq k r place false out pos = U ∧ 0 ≤ place ∧ (place = 0 ↔ i = 0) ∧ pos + r.length = s.length ∧ out.length ≤ pos) ∧ L.length - q'.1.2.2.2.1.toNat < L.length - (i : Int).toNat := fun h => by
                    have hb : (decide (x2 = [34]) = true) ∨ (decide (x2 = [34]) = false ∧ decide (x2 = [92]) = true) := by
                      rw [c34', c92']
                      rcases h with rfl | rfl
                      · exact .inl rfl
                      · exact .inr ⟨rfl, rfl⟩
                    have hu : uq k (q.drop d2.2) (place + 1 + 1) false (out ++ x2) (pos + 1 + d2.2) = U := by
                      have hpl2 : pln d2.1 d2.2 = true := by rcases h with rfl | rfl <;> rfl
                      have hne : ¬ (d2.1 = 65533 ∧ d2.2 = 1) := by rcases h with rfl | rfl <;> decide
                      have hs1 : (!decide ((d2.1 : Int) = 34) && !decide ((d2.1 : Int) = 92)) = false := by rcases h with rfl | rfl <;> rfl
                      rw [p1, hpl2, Bool.true_and, hs1, if_neg (by simp), if_neg (by omega), if_neg (by simp), if_neg (by simp), het2 hne] at g3
                      exact g3
                    have hd21 : d2.2 = 1 := by rcases h with rfl | rfl <;> rfl
                    refine ⟨_, ?_, ⟨i + 1 + 1, q.drop d2.2, out ++ x2, place + 1 + 1, k, pos + 1 + 1, rfl, hnx2, by simp; omega, by rw [hd21] at hu ⊢; exact hu, by omega, by omega, by simp; omega, by simp [hxl2]; omega⟩, hm2⟩
                    rcases hb with hb | ⟨hb, hb2⟩
                    · simp only [B28_0, nat_lt, nat_nn, hi, hi2, decide_true, Bool.and_self, cond_true, cond_false, Int.toNat_natCast, hxg, hxg2, w1, Option.bind_some, Bool.true_or, zi, hp0, Bool.false_and, Bool.not_false, Bool.not_true, hF41, hpl, c34, c92, w2, w3, w4, e1, hb, hfx2]
                    · simp only [B28_0, nat_lt, nat_nn, hi, hi2, decide_true, Bool.and_self, cond_true, cond_false, Int.toNat_natCast, hxg, hxg2, w1, Option.bind_some, Bool.true_or, zi, hp0, Bool.false_and, Bool.and_false, Bool.not_false, Bool.not_true, hF41, hpl, c34, c92, w2, w3, w4, e1, hb, hb2, hfx2]
                  cases h34' : decide ((d2.1 : Int) = 34)
                  · cases h92' : decide ((d2.1 : Int) = 92)
                    · rw [h34'] at c34' g3
                      rw [h92'] at c92' g3
                      rw [p1, if_pos (by simp)] at g3
                      refine .inr ⟨.inr (([], ((i + 1 : Nat) : Int), 4, ()), ()), ?_, .inr ⟨_, _, _, rfl, .inr ⟨by decide, by rw [← g3]; simp⟩⟩⟩
                      simp only [B28_0, nat_lt, nat_nn, hi, hi2, decide_true, Bool.and_self, cond_true, cond_false, Int.toNat_natCast, hxg, hxg2, w1, Option.bind_some, Bool.true_or, zi, hp0, Bool.false_and, Bool.not_false, Bool.not_true, hF41, hpl, c34, c92, w2, e1, c34', c92']
                    · exact .inl (hlast (.inr (hlow2 (by have := of_decide_eq_true h92'; omega))))
                  · exact .inl (hlast (.inl (hlow3 (by have := of_decide_eq_true h34'; omega))))
            · rw [h34] at c34 g3
              have hd34 := hlow34 (by have := of_decide_eq_true h34; omega)
              have h92 : decide ((d.1 : Int) = 92) = false := by rw [hd34]; rfl
              rw [h92, if_neg (by decide), if_pos (by decide)] at g3
              have hd1 : d.2 = 1 := by rw [hd34]
              by_cases hbig : 1024 < out.length
              · have e1 : decide ((1024 : Int) < (out.length : Int)) = true := decide_eq_true (by omega)
                rw [if_pos hbig] at g3
                refine .inr ⟨.inr (([], (0 : Int), 6, ()), ()), ?_, .inr ⟨_, _, _, rfl, .inr ⟨by decide, by rw [← g3]; simp⟩⟩⟩
                simp only [B28_0, nat_lt, nat_nn, hi, decide_true, Bool.and_self, cond_true, cond_false, Int.toNat_natCast, hxg, w1, Option.bind_some, Bool.true_or, zi, hp0, Bool.false_and, Bool.not_false, Bool.not_true, hF41, hpl, c34, e1]
              · have e1 : decide ((1024 : Int) < (out.length : Int)) = false := decide_eq_false (by omega)
                rw [if_neg hbig] at g3
                refine .inr ⟨.inr ((out, ((pos + d.2 : Nat) : Int), 0, ()), ()), ?_, .inr ⟨_, _, _, rfl, .inl ⟨rfl, by rw [← g3], by rw [← g3], by rw [← g3]; simp only; omega⟩⟩⟩
                simp only [B28_0, nat_lt, nat_nn, hi, decide_true, Bool.and_self, cond_true, cond_false, Int.toNat_natCast, hxg, w1, Option.bind_some, Bool.true_or, zi, hp0, Bool.false_and, Bool.not_false, Bool.not_true, hF41, hpl, c34, e1]
        · have p0 : place = 0 := of_decide_eq_true hp0
          rw [if_pos p0] at g3
          cases h34 : decide ((d.1 : Int) = 34)
          · rw [h34] at c34
            rw [hp0, h34, if_pos (by simp)] at g3
            refine .inr ⟨.inr (([], (i : Int), 4, ()), ()), ?_, .inr ⟨_, _, _, rfl, .inr ⟨by decide, by rw [← g3]; simp⟩⟩⟩
            simp only [B28_0, nat_lt, nat_nn, hi, decide_true, Bool.and_self, cond_true, cond_false, Int.toNat_natCast, hxg, w1, Option.bind_some, Bool.true_or, zi, hp0, c34, Bool.not_false, Bool.not_true]
          · rw [h34] at c34
            cases hpl : pln d.1 d.2
            · rw [hpl, if_pos (by simp)] at g3
              refine .inr ⟨.inr (([], (i : Int), 4, ()), ()), ?_, .inr ⟨_, _, _, rfl, .inr ⟨by decide, by rw [← g3]; simp⟩⟩⟩
              simp only [B28_0, nat_lt, nat_nn, hi, decide_true, Bool.and_self, cond_true, cond_false, Int.toNat_natCast, hxg, w1, Option.bind_some, Bool.true_or, zi, hp0, c34, Bool.and_false, Bool.not_false, Bool.not_true, hF41, hpl]
            · rw [hp0, h34, hpl, if_neg (by simp)] at g3
              refine .inl ⟨_, ?_, ⟨i + 1, r.drop d.2, out, place + 1, k, pos + d.2, rfl, hnx, by simp; omega, g3, by omega, by omega, by simp; omega, by omega⟩, hm⟩
              simp only [B28_0, nat_lt, nat_nn, hi, decide_true, Bool.and_self, cond_true, cond_false, Int.toNat_natCast, hxg, w1, Option.bind_some, Bool.true_or, zi, hp0, c34, Bool.and_false, Bool.not_false, Bool.not_true, hF41, hpl, w2])
    (p := (((), ([]:List UInt8), (0:Int), (0:Int), ()), (L, ()))) ⟨0, s, [], 0, s.length, 0, rfl, by rw [List.drop_zero, hL], Nat.le_refl _, hU, by omega, by simp, by simp, by simp⟩ (by
      have := FUEL_big
      show L.length - (0 : Int).toNat < FUEL
      omega)

/-- the reference's Unquote -/
theorem F28_ok (s : List UInt8) (hs : s.length ≤ 1100000) : ∃ v k e, F28 ((s, ()), ()) = some ((v, k, e, ()), ()) ∧ Ans (unq s) v k e := by
  obtain ⟨r, h1, h2⟩ := L28_ok s hs
  have h0 := F40_eq s (by omega)
  simp only [F28, h0, Option.bind_some, h1]
  rcases h2 with ⟨rfl, g⟩ | ⟨v, k, e, rfl, g⟩
  · exact ⟨_, _, _, rfl, .inr ⟨by decide, g⟩⟩
  · exact ⟨_, _, _, rfl, g⟩

end Go.Mi

namespace Go.Mi
open Go Go.Ev
set_option maxRecDepth 100000

theorem has_cons (b c : UInt8) (z : List UInt8) : Lib.hasPrefix (b :: z) [c] = decide (b = c) := by
  have : Lib.hasPrefix (b :: z) [c] = (c == b) := by
    show [c].isPrefixOf (b :: z) = (c == b)
    simp [List.isPrefixOf]
  rw [this, Bool.eq_iff_iff, beq_iff_eq, decide_eq_true_eq]
  exact ⟨fun h => h.symm, fun h => h.symm⟩
theorem has_nil (c : UInt8) : Lib.hasPrefix [] [c] = false := rfl

theorem rtr_le (l : List UInt8) : (rtr l).length ≤ l.length := (rtr_infix l).length_le

/-- what stands at the end of a text that is cut off at the end, is so -/
theorem rtr_suffix {p u : List UInt8} (h : rtr (p ++ u) = p ++ u) : rtr u = u := by
  by_cases hu : u = []
  · subst hu; rfl
  · obtain ⟨x, a, rfl⟩ : ∃ x a, u = x ++ [a] := ⟨u.dropLast, u.getLast hu, (List.dropLast_concat_getLast hu).symm⟩
    rw [← List.append_assoc, rtr_snoc] at h
    rw [rtr_snoc]
    cases hc : bl a
    · rfl
    · rw [hc, if_pos rfl] at h
      have h1 := congrArg List.length h
      have h2 := rtr_le (p ++ x)
      simp only [List.length_append, List.length_singleton] at h1 h2
      omega

theorem rtr_drop {s : List UInt8} (h : rtr s = s) (n : Nat) : rtr (s.drop n) = s.drop n := by
  refine rtr_suffix (p := s.take n) ?_
  rw [List.take_append_drop]
  exact h

theorem ltr_drop (u : List UInt8) : ∃ n, ltr u = u.drop n := ⟨nb u, (drop_nb u).symm⟩

theorem trm_drop {s : List UInt8} (h : rtr s = s) (n : Nat) : trm (s.drop n) = s.drop (n + nb (s.drop n)) := by
  unfold trm
  rw [← drop_nb, List.drop_drop]
  exact rtr_drop h _

theorem rtr_trm (v : List UInt8) : rtr (trm v) = trm v := by
  have hid : ∀ u : List UInt8, rtr (rtr u) = rtr u := fun u => by
    induction u with
    | nil => rfl
    | cons a t ih =>
      by_cases h : rtr t = [] ∧ bl a = true
      · have e : rtr (a :: t) = [] := by rw [rtr, if_pos h]
        rw [e]; rfl
      · have e : rtr (a :: t) = a :: rtr t := by rw [rtr, if_neg h]
        rw [e, rtr, ih, if_neg h]
  unfold trm
  exact hid _

abbrev R11 := ((List UInt8 × Unit × Unit) × (Par × Unit)) ⊕ ((Unit × Unit × Unit × Unit) × (Par × Unit))
def res11 (kind : List UInt8) : Option Par → R11
  | some P => .inl ((kind, (), ()), (P, ()))
  | none => .inr (((), (), (), ()), ([], ()))

theorem drop_of {s : List UInt8} {n : Nat} {c : UInt8} {t : List UInt8} (h : s.drop n = c :: t) : n < s.length ∧ s.getD n 0 = c ∧ s.drop (n + 1) = t := by
  have hl := congrArg List.length h
  rw [List.length_drop, List.length_cons] at hl
  refine ⟨by omega, ?_, ?_⟩
  · rw [List.getD_eq_getElem?_getD, ← Nat.add_zero n, ← List.getElem?_drop, h]; rfl
  · rw [← List.drop_drop, h]; rfl

theorem L11_eq (s kind : List UInt8) (hs : s.length ≤ 1100000) (hr : rtr s = s) (n0 : Nat) (h0 : n0 ≤ s.length) (R : Option Par) (hR : prs (s.drop n0).length (s.drop n0) [] = R) :
    L11_0 ((s, kind, (), (n0 : Int), ()), (([] : Par), ())) = some (res11 kind R) := by
  obtain ⟨r, h1, rfl⟩ := loop_ind (f := B11_0)
    (I := fun p => ∃ (n : Nat) (P : Par) (k : Nat), p = ((s, kind, (), (n : Int), ()), (P, ())) ∧ n ≤ s.length ∧ P.length ≤ n ∧ s.length - n ≤ k ∧ prs k (s.drop n) P = R)
    (μ := fun p => s.length - p.1.2.2.2.1.toNat)
    (Q := fun r => r = res11 kind R)
    (step := fun p hp => by
      obtain ⟨n, P, k, rfl, g1, g2, g3, g4⟩ := hp
      cases hd : s.drop n with
      | nil =>
        have hn : ¬ n < s.length := fun h => by
          have := congrArg List.length hd
          simp at this
          omega
        refine .inr ⟨.inl ((kind, (), ()), (P, ())), ?_, ?_⟩
        · simp only [B11_0, nat_lt, hn, decide_false, cond_false]
        · rw [hd] at g4
          have : prs k [] P = some P := by cases k <;> rfl
          rw [← g4, this]; rfl
      | cons c t =>
        obtain ⟨hn, hc, ht⟩ := drop_of hd
        obtain ⟨k, rfl⟩ : ∃ j, k = j + 1 := ⟨k - 1, by omega⟩
        rw [hd, prs] at g4
        by_cases h59 : c = 59
        · rw [if_pos h59, ← ht, trm_drop hr] at g4
          have w1 := w64_nat (show n < 9223372036854775807 by omega)
          have f1 := F27_eq s (n + 1) (by omega) hn
          have ha1 : n + 1 + nb (s.drop (n + 1)) ≤ s.length := by
            have := nb_le (s.drop (n + 1))
            rw [List.length_drop] at this
            omega
          have hna : n + 1 ≤ n + 1 + nb (s.drop (n + 1)) := Nat.le_add_right _ _
          generalize n + 1 + nb (s.drop (n + 1)) = a1 at f1 ha1 g4 hna
          have f2 := F25_eq s a1 (by omega) ha1
          have htk := tk_le (s.drop a1)
          have hdl : (s.drop a1).length = s.length - a1 := by simp
          have hu1 : (s.drop a1).length ≤ 1100000 := by omega
          generalize hpar : par (s.drop a1) = X at g4
          unfold par at hpar
          have hy : (s.drop a1).drop (tk (s.drop a1)) = s.drop (a1 + tk (s.drop a1)) := by rw [List.drop_drop]
          rw [hy] at hpar
          have e1 : decide (((a1 + tk (s.drop a1) : Nat) : Int) = (a1 : Int)) = decide (tk (s.drop a1) = 0) := decide_eq_decide.2 (by omega)
          have hname : List.take (((a1 + tk (s.drop a1) : Nat) : Int).toNat - ((a1 : Nat) : Int).toNat) (List.drop ((a1 : Nat) : Int).toNat s) = (s.drop a1).take (tk (s.drop a1)) := by
            rw [Int.toNat_natCast, Int.toNat_natCast, Nat.add_sub_cancel_left]
          rw [Int.toNat_natCast, Int.toNat_natCast] at hname
          have f3 := F26_eq ((s.drop a1).take (tk (s.drop a1))) (by rw [List.length_take]; omega)
          have e2 : decide ((0 : Int) ≤ (a1 : Int)) = true := decide_eq_true (by omega)
          have e3 : decide ((a1 : Int) ≤ ((a1 + tk (s.drop a1) : Nat) : Int)) = true := decide_eq_true (by omega)
          have e4 : decide (((a1 + tk (s.drop a1) : Nat) : Int) ≤ (s.length : Int)) = true := decide_eq_true (by omega)
          have e5 : decide ((0 : Int) ≤ ((a1 + tk (s.drop a1) : Nat) : Int)) = true := decide_eq_true (by omega)
          have he1 : a1 + tk (s.drop a1) ≤ s.length := by omega
          generalize tk (s.drop a1) = m at *
          generalize ((s.drop a1).take m).map lowc = name at *
          by_cases hm0 : m = 0
          · rw [if_pos (.inl hm0)] at hpar
            subst hpar
            rw [if_neg (by simp)] at g4
            refine .inr ⟨.inr (((), (), (), ()), ([], ())), ?_, by rw [← g4]; rfl⟩
            have hc' : s.getD n 0 = 59 := by rw [hc, h59]
            simp only [B11_0, nat_lt, nat_nn, hn, decide_true, Bool.and_self, cond_true, cond_false, Int.toNat_natCast, hc', Bool.not_true, w1, f1, f2, Option.bind_some, e1, decide_eq_true hm0, Bool.true_or, Bool.or_true]
          · have hc' : s.getD n 0 = 59 := by rw [hc, h59]
            cases hd1 : s.drop (a1 + m) with
            | nil =>
              have hend : a1 + m = s.length := by
                have := congrArg List.length hd1
                simp at this
                omega
              rw [hd1, has_nil, if_pos (.inr rfl)] at hpar
              subst hpar
              rw [if_neg (by simp)] at g4
              refine .inr ⟨.inr (((), (), (), ()), ([], ())), ?_, by rw [← g4]; rfl⟩
              have e6 : decide (((a1 + m : Nat) : Int) = (s.length : Int)) = true := decide_eq_true (by omega)
              simp only [B11_0, nat_lt, nat_nn, hn, decide_true, Bool.and_self, cond_true, cond_false, Int.toNat_natCast, hc', Bool.not_true, w1, f1, f2, Option.bind_some, e1, e6, Bool.true_or, Bool.or_true]
            | cons b z =>
              obtain ⟨hn2, hb, hz⟩ := drop_of hd1
              have e6 : decide (((a1 + m : Nat) : Int) = (s.length : Int)) = false := decide_eq_false (by omega)
              have e7 : decide (((a1 + m : Nat) : Int) < (s.length : Int)) = true := decide_eq_true (by omega)
              rw [hd1, has_cons] at hpar
              by_cases h61 : b = 61
              · have hb' : s.getD (a1 + m) 0 = 61 := by rw [hb, h61]
                have w2 := w64_nat (show a1 + m < 9223372036854775807 by omega)
                rw [decide_eq_true h61, if_neg (by simp [hm0]), List.drop_succ_cons, List.drop_zero] at hpar
                have hzl : z.length = s.length - (a1 + m + 1) := by rw [← hz, List.length_drop]
                have e8 : decide ((0 : Int) ≤ ((a1 + m + 1 : Nat) : Int)) = true := decide_eq_true (by omega)
                have e9 : decide (((a1 + m + 1 : Nat) : Int) ≤ (s.length : Int)) = true := decide_eq_true (by omega)
                have e10 : decide ((s.length : Int) ≤ (s.length : Int)) = true := decide_eq_true (by omega)
                have hzz : List.take (s.length - (a1 + m + 1)) (List.drop (a1 + m + 1) s) = z := by rw [hz, List.take_of_length_le (by omega)]
                have hq : (decide (((a1 + m + 1 : Nat) : Int) < (s.length : Int)) && decide (s.getD (a1 + m + 1) 0 = 34)) = Lib.hasPrefix z [34] := by
                  cases hz2 : z with
                  | nil =>
                    rw [hz2] at hzl
                    simp only [List.length_nil] at hzl
                    rw [decide_eq_false (show ¬ ((a1 + m + 1 : Nat) : Int) < (s.length : Int) by omega), has_nil]; rfl
                  | cons d y =>
                    rw [hz2] at hz
                    obtain ⟨q1, q2, q3⟩ := drop_of hz
                    rw [decide_eq_true (show ((a1 + m + 1 : Nat) : Int) < (s.length : Int) by omega), q2, has_cons]; rfl
                have hby : ∀ x : (List UInt8 × (List UInt8 × Unit)), bytesOK (P.length + ([x] : Par).length) 32 = true := fun x => decide_eq_true (by simp; omega)
                have e11 : (decide (((a1 + m + 1 : Nat) : Int) < (s.length : Int)) || !decide (((a1 + m + 1 : Nat) : Int) < (s.length : Int))) = true := by cases decide (((a1 + m + 1 : Nat) : Int) < (s.length : Int)) <;> rfl
                have ha2 : n + 1 ≤ a1 + m + 1 := by omega
                have ha3 : a1 + m + 1 ≤ s.length := hn2
                rw [nat_lt] at hq e11
                generalize a1 + m + 1 = a2 at *
                have next : ∀ (a3 : Nat) (v : List UInt8), a2 ≤ a3 → a3 ≤ s.length → prs k (trm (s.drop a3)) (P ++ [(name, (v, ()))]) = R →
                    ∃ a4 : Nat, F27 ((s, (a3 : Int), ()), ()) = some ((a4 : Int), ()) ∧ (∃ (n : Nat) (P' : Par) (k : Nat), (((s, kind, (), (a4 : Int), ()), (P ++ [(name, (v, ()))], ())) : (((List UInt8) × (List UInt8) × Unit × Int × Unit) × (Par × Unit))) = ((s, kind, (), (n : Int), ()), (P', ())) ∧ n ≤ s.length ∧ P'.length ≤ n ∧ s.length - n ≤ k ∧ prs k (s.drop n) P' = R) ∧ s.length - (a4 : Int).toNat < s.length - (n : Int).toNat := fun a3 v h1 h2 h3 => by
                  have f := F27_eq s a3 (by omega) h2
                  rw [trm_drop hr] at h3
                  have hnb := nb_le (s.drop a3)
                  rw [List.length_drop] at hnb
                  exact ⟨_, f, ⟨a3 + nb (s.drop a3), _, k, rfl, by omega, by simp; omega, by omega, h3⟩, by omega⟩
                cases hpq : Lib.hasPrefix z [34]
                · rw [hpq] at hq hpar
                  have f4 := F25_eq s a2 (by omega) (by omega)
                  rw [hz] at f4
                  have htz := tk_le z
                  rw [if_neg (by decide)] at hpar
                  subst hpar
                  by_cases hz0 : tk z = 0
                  · rw [if_neg (by simp [hz0])] at g4
                    refine .inr ⟨.inr (((), (), (), ()), ([], ())), ?_, by rw [← g4]; rfl⟩
                    have e12 : decide (((a2 + tk z : Nat) : Int) = (a2 : Int)) = true := decide_eq_true (by omega)
                    simp only [B11_0, nat_lt, nat_nn, hn, decide_true, Bool.and_self, cond_true, cond_false, Int.toNat_natCast, hc', Bool.not_true, w1, f1, f2, Option.bind_some, e1, decide_eq_false hm0, e6, e7, Bool.true_or, Bool.or_true, Bool.or_self, hb', e2, e3, e4, e5, hname, f3, w2, Bool.true_and, e11, e8, hq, f4, e12]
                  · rw [if_pos (by simp; omega)] at g4
                    simp only at g4
                    have hz3 : z.drop (tk z) = s.drop (a2 + tk z) := by rw [← hz, List.drop_drop]
                    rw [hz3] at g4
                    obtain ⟨a4, q1, q2, q3⟩ := next (a2 + tk z) (z.take (tk z)) (by omega) (by omega) g4
                    refine .inl ⟨_, ?_, q2, q3⟩
                    have e12 : decide (((a2 + tk z : Nat) : Int) = (a2 : Int)) = false := decide_eq_false (by omega)
                    have e13 : decide ((a2 : Int) ≤ ((a2 + tk z : Nat) : Int)) = true := decide_eq_true (by omega)
                    have e14 : decide (((a2 + tk z : Nat) : Int) ≤ (s.length : Int)) = true := decide_eq_true (by omega)
                    have e15 : List.take (a2 + tk z - a2) (List.drop a2 s) = z.take (tk z) := by rw [hz, Nat.add_sub_cancel_left]
                    simp only [B11_0, nat_lt, nat_nn, hn, decide_true, Bool.and_self, cond_true, cond_false, Int.toNat_natCast, hc', Bool.not_true, w1, f1, f2, Option.bind_some, e1, decide_eq_false hm0, e6, e7, Bool.true_or, Bool.or_true, Bool.or_self, hb', e2, e3, e4, e5, hname, f3, w2, Bool.true_and, e11, e8, hq, f4, e12, e13, e14, e15, hby, q1]
                · rw [hpq] at hq hpar
                  obtain ⟨v, kk, e, f4, hA⟩ := F28_ok z (by omega)
                  rw [if_pos rfl] at hpar
                  rcases hA with ⟨rfl, hU, rfl, rfl⟩ | ⟨he, hU⟩
                  · rw [if_pos hU] at hpar
                    subst hpar
                    rw [if_pos rfl] at g4
                    simp only at g4
                    obtain ⟨b1, b2⟩ := unq_ok z (by omega) hU
                    have hz3 : z.drop (unq z).2.1.toNat = s.drop (a2 + (unq z).2.1.toNat) := by rw [← hz, List.drop_drop]
                    rw [hz3] at g4
                    obtain ⟨a4, q1, q2, q3⟩ := next (a2 + (unq z).2.1.toNat) (unq z).1 (by omega) (by omega) g4
                    refine .inl ⟨_, ?_, q2, q3⟩
                    have w3 : w64 ((a2 : Int) + (unq z).2.1) = ((a2 + (unq z).2.1.toNat : Nat) : Int) := by rw [w64_id (by omega) (by omega)]; omega
                    simp only [B11_0, nat_lt, nat_nn, hn, decide_true, Bool.and_self, cond_true, cond_false, Int.toNat_natCast, hc', Bool.not_true, w1, f1, f2, Option.bind_some, e1, decide_eq_false hm0, e6, e7, Bool.true_or, Bool.or_true, Bool.or_self, hb', e2, e3, e4, e5, hname, f3, w2, Bool.true_and, e11, e8, e9, e10, hq, hzz, f4, hby, w3, q1]
                  · rw [if_neg hU] at hpar
                    subst hpar
                    rw [if_neg (by simp)] at g4
                    refine .inr ⟨.inr (((), (), (), ()), ([], ())), ?_, by rw [← g4]; rfl⟩
                    simp only [B11_0, nat_lt, nat_nn, hn, decide_true, Bool.and_self, cond_true, cond_false, Int.toNat_natCast, hc', Bool.not_true, w1, f1, f2, Option.bind_some, e1, decide_eq_false hm0, e6, e7, Bool.true_or, Bool.or_true, Bool.or_self, hb', e2, e3, e4, e5, hname, f3, w2, Bool.true_and, e11, e8, e9, e10, hq, hzz, f4, decide_eq_false he, Bool.not_false]
              · rw [decide_eq_false h61, if_pos (.inr rfl)] at hpar
                subst hpar
                rw [if_neg (by simp)] at g4
                refine .inr ⟨.inr (((), (), (), ()), ([], ())), ?_, by rw [← g4]; rfl⟩
                have hb' : decide (s.getD (a1 + m) 0 = 61) = false := by rw [hb]; exact decide_eq_false h61
                simp only [B11_0, nat_lt, nat_nn, hn, decide_true, Bool.and_self, cond_true, cond_false, Int.toNat_natCast, hc', Bool.not_true, Bool.not_false, w1, f1, f2, Option.bind_some, e1, decide_eq_false hm0, e6, e7, Bool.true_or, Bool.or_true, Bool.or_self, hb', e5]
        · rw [if_neg h59] at g4
          refine .inr ⟨.inr (((), (), (), ()), ([], ())), ?_, by rw [← g4]; rfl⟩
          simp only [B11_0, nat_lt, nat_nn, hn, decide_true, Bool.and_self, cond_true, Int.toNat_natCast, hc, decide_eq_false h59, Bool.not_false])
    (p := ((s, kind, (), (n0 : Int), ()), (([] : Par), ()))) ⟨n0, [], _, rfl, h0, Nat.zero_le _, by simp, hR⟩ (by
      have := FUEL_big
      show s.length - (n0 : Int).toNat < FUEL
      omega)
  exact h1

/-- the reference's Kind -/
theorem F11_eq (v : List UInt8) (hv : v.length ≤ 1100000) : F11 ((v, ()), ()) = some (((kd v).1, (), (kd v).2.1, ()), ((kd v).2.2, ())) := by
  have hl := trm_le v
  have hF := F24_eq v (by omega)
  have hr := rtr_trm v
  unfold F11 kd
  simp only [hF, Option.bind_some]
  generalize trm v = s at hl hr ⊢
  have f0 := F25_eq s 0 (by omega) (Nat.zero_le _)
  rw [List.drop_zero, Nat.zero_add] at f0
  have h2 := tk_le s
  generalize tk s = n at f0 h2 ⊢
  have z : ((0 : Nat) : Int) = 0 := rfl
  rw [z] at f0
  have en : decide ((n : Int) = 0) = decide (n = 0) := decide_eq_decide.2 (by omega)
  simp only [f0, Option.bind_some, en]
  by_cases hn : n = 0
  · simp only [hn, decide_true, Bool.true_or, Bool.or_true, cond_true, true_or, if_true]
  · simp only [hn, decide_false, false_or, Bool.false_or]
    cases hd : s.drop n with
    | nil =>
      have hend : n = s.length := by
        have := congrArg List.length hd
        simp at this
        omega
      have e : decide ((n : Int) = (s.length : Int)) = true := decide_eq_true (by omega)
      simp only [e, Bool.or_true, Bool.true_or, cond_true, has_nil, if_true]
    | cons c t =>
      obtain ⟨g1, g2, g3⟩ := drop_of hd
      have e : decide ((n : Int) = (s.length : Int)) = false := decide_eq_false (by omega)
      rw [has_cons]
      by_cases hc : c = 47
      · have hk := F25_eq s (n + 1) (by omega) g1
        rw [g3] at hk
        have w1 := w64_nat (show n < 9223372036854775807 by omega)
        have htl := tk_le t
        have htt : t.length = s.length - (n + 1) := by rw [← g3, List.length_drop]
        have hdd : (c :: t).drop 1 = t := rfl
        have hd2 : ∀ m, (c :: t).drop (1 + m) = s.drop (n + 1 + m) := fun m => by rw [← hd, List.drop_drop, Nat.add_assoc]
        simp only [e, nat_lt, nat_nn, g1, decide_true, Bool.and_self, Bool.true_or, cond_true, Int.toNat_natCast, g2, hc, Bool.not_true, Bool.or_self, cond_false, w1, hk, Option.bind_some, Bool.true_eq_false, if_false]
        rw [hc] at hdd hd2
        simp only [hdd, hd2]
        generalize tk t = m at hk htl ⊢
        have em : decide (((n + 1 + m : Nat) : Int) = ((n + 1 : Nat) : Int)) = decide (m = 0) := decide_eq_decide.2 (by omega)
        rw [em]
        by_cases hm : m = 0
        · simp only [hm, decide_true, cond_true, if_true]
        · have e1 : decide (((n + 1 + m : Nat) : Int) ≤ (s.length : Int)) = true := decide_eq_true (by omega)
          have f3 := F26_eq (s.take (n + 1 + m)) (by rw [List.length_take]; omega)
          have f4 := F27_eq s (n + 1 + m) (by omega) (by omega)
          have htrm := trm_drop hr (n + 1 + m)
          have hnb := nb_le (s.drop (n + 1 + m))
          rw [List.length_drop] at hnb
          have f5 := L11_eq s ((s.take (n + 1 + m)).map lowc) (by omega) hr (n + 1 + m + nb (s.drop (n + 1 + m))) (by omega) _ rfl
          rw [← htrm] at f5
          simp only [hm, decide_false, cond_false, if_false, e1, Bool.and_true, cond_true, Int.toNat_natCast, f3, Option.bind_some, f4, f5]
          generalize prs (trm (List.drop (n + 1 + m) s)).length (trm (List.drop (n + 1 + m) s)) [] = oP
          cases oP with
          | none => simp only [res11, Option.bind_some]
          | some P =>
            have e8 : decide ((8 : Int) < (P.length : Int)) = decide (8 < P.length) := decide_eq_decide.2 (by omega)
            simp only [res11, Option.bind_some, e8]
            by_cases h8 : 8 < P.length
            · simp only [h8, decide_true, cond_true, if_true]
            · simp only [h8, decide_false, cond_false, if_false]
      · have hb' : decide (s.getD n 0 = 47) = false := by rw [g2]; exact decide_eq_false hc
        simp only [e, nat_lt, nat_nn, g1, decide_true, Bool.and_self, Bool.true_or, cond_true, Int.toNat_natCast, hb', Bool.not_false, Bool.or_true, decide_eq_false hc, if_true]

theorem F12_same (P : Par) (hP : P.length ≤ 1100000) : F12 ((P, P, ()), ()) = some (true, ()) := by
  obtain ⟨r, h1, rfl⟩ := loop_ind (f := B12_0)
    (I := fun p => ∃ i : Nat, p = ((P, P, (i : Int), ()), ()) ∧ i ≤ P.length)
    (μ := fun p => P.length - p.1.2.2.1.toNat)
    (Q := fun r => r = .inl ((), ()))
    (step := fun p hp => by
      obtain ⟨i, rfl, g⟩ := hp
      by_cases hi : i < P.length
      · have hw := w64_nat (show i < 9223372036854775807 by omega)
        refine .inl ⟨_, ?_, ⟨i + 1, rfl, hi⟩, ?_⟩
        · simp only [B12_0, nat_lt, nat_nn, hi, decide_true, Bool.and_self, cond_true, Int.toNat_natCast, Bool.not_true, cond_false, hw]
        · show P.length - ((i + 1 : Nat) : Int).toNat < P.length - (i : Int).toNat
          omega
      · refine .inr ⟨.inl ((), ()), ?_, rfl⟩
        simp only [B12_0, nat_lt, hi, decide_false, cond_false])
    (p := ((P, P, (0 : Int), ()), ())) ⟨0, rfl, Nat.zero_le _⟩ (by
      have := FUEL_big
      show P.length - (0 : Int).toNat < FUEL
      omega)
  have h1' : L12_0 ((P, P, (0 : Int), ()), ()) = some (.inl ((), ())) := h1
  unfold F12
  simp only [decide_true, Bool.not_true, cond_false, h1', Option.bind_some]

theorem law5g (G7 : Unit × Unit → Option (Bool × Unit)) (h7 : G7 ((), ()) = some (true, ())) (G10 G11 : _) (G12 : _) (v : List UInt8) (K : List UInt8) (E : Int) (P : Par) (h10 : G10 ((v, ()), ()) = some ((K, (), E, ()), (P, ()))) (h11 : G11 ((v, ()), ()) = some ((K, (), E, ()), (P, ())))
    (h12 : G12 ((P, P, ()), ()) = some (true, ())) : F5a G7 G10 G11 G12 ((v, ()), ()) = some (true, ()) := by
  unfold F5a
  simp only [h10, h11, h7, Option.bind_some, decide_true, Bool.and_self, cond_true, h12]

theorem law5 (v : List UInt8) (hv : v.length ≤ 1100000) : F5 ((v, ()), ()) = some (true, ()) := by
  have h1 := F10_eq v hv
  have h2 := F11_eq v hv
  obtain ⟨k, e, P, h3, h4, _⟩ := F10_ok v v.length (by omega) (Nat.le_refl _)
  have hP : (kd v).2.2.length ≤ 1100000 := by
    rw [h1] at h3
    simp only [Option.some.injEq, Prod.mk.injEq, and_true, true_and] at h3
    rw [h3.2]
    omega
  exact law5g F7 live_true F10 F11 F12 v _ _ _ h1 h2 (F12_same _ hP)

end Go.Mi
