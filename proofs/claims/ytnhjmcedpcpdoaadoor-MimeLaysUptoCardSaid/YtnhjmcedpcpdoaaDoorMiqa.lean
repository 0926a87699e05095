/- The law MimeLays. -/
import Derived.Test.YtnhjmcedpcpdoaaDoorMiq9
import Derived.Test.YtnhjmcedpcpdoaaDoorMiW
namespace Go.Mi
open Go Go.Ev
set_option maxRecDepth 100000

abbrev T7 := Unit × Unit → Option (Bool × Unit)
abbrev T8 := (Int × Unit) × Unit → Option (((List UInt8) × Int × Unit) × Unit)
abbrev T9 := ((List UInt8) × (List UInt8) × Unit) × Unit → Option ((Int × Int × Int × Unit) × Unit)

theorem fits_le {n : Nat} (h : n ≤ 100000) : fits n = true := decide_eq_true (by omega)

/-- the boundary's letters -/
theorem bound4 (G7 : T7) (G8 : T8) (G9 : T9) (ps : List (List UInt8)) (seed : Int) (h0 : 0 ≤ seed) (ahead behind : List UInt8) :
    ∃ b, L4_0 G7 G8 G9 ((ps, seed, ahead, behind, ([]:List UInt8), (0:Int), ()), ()) = some ((ps, ahead, behind, b, ()), ()) ∧ Letters b ∧ b.length ≤ 20 := by
  have hm0 : 0 ≤ Int.tmod seed 20 := Int.tmod_nonneg _ h0
  have hm1 : Int.tmod seed 20 < 20 := Int.tmod_lt_of_pos _ (by decide)
  have w1 : w64 (Int.tmod seed 20) = Int.tmod seed 20 := w64_id (by omega) (by omega)
  have w2 : w64 (1 + Int.tmod seed 20) = 1 + Int.tmod seed 20 := w64_id (by omega) (by omega)
  obtain ⟨r, h1, b, rfl, h2, h3⟩ := loop_ind (f := B4_0 G7 G8 G9)
    (I := fun p => ∃ (i : Nat) (b : List UInt8), p = ((ps, seed, ahead, behind, b, (i : Int), ()), ()) ∧ (i : Int) ≤ 1 + Int.tmod seed 20 ∧ b.length = i ∧ ∀ c ∈ b, 97 ≤ c.toNat ∧ c.toNat ≤ 122)
    (μ := fun p => 21 - p.1.2.2.2.2.2.1.toNat)
    (Q := fun r => ∃ b, r = ((ps, ahead, behind, b, ()), ()) ∧ (b.length : Int) = 1 + Int.tmod seed 20 ∧ ∀ c ∈ b, 97 ≤ c.toNat ∧ c.toNat ≤ 122)
    (step := fun p hp => by
      obtain ⟨i, b, rfl, g1, g2, g3⟩ := hp
      by_cases hlt : (i : Int) < 1 + Int.tmod seed 20
      · have hw := w64_nat (show i < 9223372036854775807 by omega)
        have e1 : decide ((0 : Int) ≤ (i : Int)) = true := decide_eq_true (by omega)
        generalize hx : Int.fdiv seed (2 ^ (min (Int.toNat (i : Int)) (Go.IntKind.bits .u32))) = x
        have hx0 : 0 ≤ x := by
          rw [← hx]
          exact Int.fdiv_nonneg h0 (Int.pow_nonneg (by decide))
        have y0 : 0 ≤ Int.tmod x 26 := Int.tmod_nonneg _ hx0
        have y1 : Int.tmod x 26 < 26 := Int.tmod_lt_of_pos _ (by decide)
        have hu : (u8of (Go.IntKind.wrap .u32 ((97:Int) + Int.tmod x 26))).toNat = 97 + (Int.tmod x 26).toNat := by
          have : Go.IntKind.wrap .u32 ((97:Int) + Int.tmod x 26) = 97 + Int.tmod x 26 := by
            unfold Go.IntKind.wrap
            simp only [Go.IntKind.bits, Go.IntKind.signed, Bool.false_and, Bool.false_eq_true, if_false]
            omega
          rw [this]
          unfold u8of
          rw [show (97 : Int) + Int.tmod x 26 = ((97 + (Int.tmod x 26).toNat : Nat) : Int) by omega]
          simp
          omega
        refine .inl ⟨_, ?_, ⟨i + 1, b ++ [u8of (Go.IntKind.wrap .u32 ((97:Int) + Int.tmod x 26))], rfl, by omega, ?_, ?_⟩, ?_⟩
        · simp only [B4_0, w1, w2, decide_eq_true hlt, cond_true, e1, hx, fits_le (show b.length + ([u8of (Go.IntKind.wrap .u32 ((97:Int) + Int.tmod x 26))] : List UInt8).length ≤ 100000 by simp; omega), Option.bind_some, hw]
        · simp [g2]
        · intro c hc
          rcases List.mem_append.1 hc with hc | hc
          · exact g3 c hc
          · rw [List.mem_singleton] at hc
            subst hc
            rw [hu]
            omega
        · show 21 - ((i + 1 : Nat) : Int).toNat < 21 - (i : Int).toNat
          omega
      · refine .inr ⟨_, ?_, ⟨b, rfl, by omega, g3⟩⟩
        simp only [B4_0, w1, w2, decide_eq_false hlt, cond_false])
    (p := ((ps, seed, ahead, behind, ([]:List UInt8), (0:Int), ()), ())) ⟨0, [], rfl, by simp; omega, rfl, by simp⟩ (by
      have := FUEL_big
      show 21 - (0 : Int).toNat < FUEL
      omega)
  refine ⟨b, h1, ⟨fun h => by rw [h] at h2; simp at h2; omega, h3⟩, by omega⟩

/-- does a mark stand in a text -/
theorem scan4 (G7 : T7) (G8 : T8) (G9 : T9) (h7 : G7 ((), ()) = some (true, ())) (ps : List (List UInt8)) (ahead behind b m : List UInt8) (all : List (List UInt8)) (i : Nat) (hi : i < all.length) (x : List UInt8) (hx : all.getD i [] = x) (hxl : x.length ≤ 200) (hml : m.length ≤ 100) :
    ∃ r, L4_2 G7 G8 G9 ((ps, ahead, behind, b, m, (), (i : Int), (0 : Int), ()), (all, ())) = some r ∧ (r = .inr ((true, ()), ()) ∨ (r = .inl ((ps, ahead, behind, b, m, (), (i : Int), ()), (all, ())) ∧ ¬ m <:+: x)) := by
  obtain ⟨r, h1, h2⟩ := loop_ind (f := B4_2 G7 G8 G9)
    (I := fun p => ∃ k : Nat, p = ((ps, ahead, behind, b, m, (), (i : Int), (k : Int), ()), (all, ())) ∧ k ≤ x.length + 1 ∧ ∀ j, j < k → (x.drop j).take m.length ≠ m)
    (μ := fun p => 500 - p.1.2.2.2.2.2.2.2.1.toNat)
    (Q := fun r => r = .inr ((true, ()), ()) ∨ (r = .inl ((ps, ahead, behind, b, m, (), (i : Int), ()), (all, ())) ∧ ¬ m <:+: x))
    (step := fun p hp => by
      obtain ⟨k, rfl, g1, g2⟩ := hp
      have hw := w64_nat (show k < 9223372036854775807 by omega)
      have hw2 : w64 ((k : Int) + (m.length : Int)) = ((k + m.length : Nat) : Int) := by rw [w64_id (by omega) (by omega)]; omega
      by_cases hlt : k + m.length ≤ x.length
      · have e1 : decide (((k + m.length : Nat) : Int) ≤ (x.length : Int)) = true := decide_eq_true (by omega)
        have e2 : decide ((0 : Int) ≤ (k : Int)) = true := decide_eq_true (by omega)
        have e3 : decide ((k : Int) ≤ ((k + m.length : Nat) : Int)) = true := decide_eq_true (by omega)
        have e4 : k + m.length - k = m.length := by omega
        by_cases hf : List.take m.length (List.drop k x) = m
        · refine .inr ⟨.inr ((true, ()), ()), ?_, .inl rfl⟩
          simp only [B4_2, nat_lt, nat_nn, hi, decide_true, Bool.and_self, cond_true, Int.toNat_natCast, hx, hw2, e1, e2, e3, e4, decide_eq_true hf, h7, Option.bind_some]
        · refine .inl ⟨_, ?_, ⟨k + 1, rfl, by omega, fun j hj => ?_⟩, ?_⟩
          · simp only [B4_2, nat_lt, nat_nn, hi, decide_true, Bool.and_self, cond_true, cond_false, Int.toNat_natCast, hx, hw2, e1, e2, e3, e4, decide_eq_false hf, hw]
          · rcases Nat.lt_succ_iff_lt_or_eq.1 hj with hj | rfl
            · exact g2 j hj
            · exact hf
          · show 500 - ((k + 1 : Nat) : Int).toNat < 500 - (k : Int).toNat
            omega
      · have e1 : decide (((k + m.length : Nat) : Int) ≤ (x.length : Int)) = false := decide_eq_false (by omega)
        refine .inr ⟨.inl ((ps, ahead, behind, b, m, (), (i : Int), ()), (all, ())), ?_, .inr ⟨rfl, fun h => ?_⟩⟩
        · simp only [B4_2, nat_lt, nat_nn, hi, decide_true, Bool.and_self, cond_true, cond_false, Int.toNat_natCast, hx, hw2, e1]
        · obtain ⟨s, t, hst⟩ := h
          have hl := congrArg List.length hst
          simp only [List.length_append] at hl
          refine g2 s.length (by omega) ?_
          rw [← hst, List.append_assoc, drop_app, take_app])
    (p := ((ps, ahead, behind, b, m, (), (i : Int), (0 : Int), ()), (all, ()))) ⟨0, rfl, Nat.zero_le _, fun j hj => absurd hj (Nat.not_lt_zero j)⟩ (by
      have := FUEL_big
      show 500 - (0 : Int).toNat < FUEL
      omega)
  exact ⟨r, h1, h2⟩

/-- no text is too long, and none holds the mark, or nothing is asked -/
theorem all4 (G7 : T7) (G8 : T8) (G9 : T9) (h7 : G7 ((), ()) = some (true, ())) (ps : List (List UInt8)) (ahead behind b m : List UInt8) (all : List (List UInt8)) (hal : all.length ≤ 100) (hml : m.length ≤ 100) :
    ∃ r, L4_1 G7 G8 G9 ((ps, ahead, behind, b, m, (), (0 : Int), ()), (all, ())) = some r ∧ (r = .inr ((true, ()), ()) ∨ (r = .inl ((ps, ahead, behind, b, m, ()), ()) ∧ ∀ x ∈ all, x.length ≤ 200 ∧ ¬ m <:+: x)) := by
  obtain ⟨r, h1, h2⟩ := loop_ind (f := B4_1 G7 G8 G9)
    (I := fun p => ∃ i : Nat, p = ((ps, ahead, behind, b, m, (), (i : Int), ()), (all, ())) ∧ i ≤ all.length ∧ ∀ x ∈ all.take i, x.length ≤ 200 ∧ ¬ m <:+: x)
    (μ := fun p => all.length - p.1.2.2.2.2.2.2.1.toNat)
    (Q := fun r => r = .inr ((true, ()), ()) ∨ (r = .inl ((ps, ahead, behind, b, m, ()), ()) ∧ ∀ x ∈ all, x.length ≤ 200 ∧ ¬ m <:+: x))
    (step := fun p hp => by
      obtain ⟨i, rfl, g1, g2⟩ := hp
      by_cases hi : i < all.length
      · have hw := w64_nat (show i < 9223372036854775807 by omega)
        have hx : all.getD i [] = all[i] := by rw [List.getD_eq_getElem?_getD, List.getElem?_eq_getElem hi]; rfl
        by_cases h200 : (200 : Int) < ((all[i].length : Nat) : Int)
        · refine .inr ⟨.inr ((true, ()), ()), ?_, .inl rfl⟩
          simp only [B4_1, nat_lt, nat_nn, hi, decide_true, Bool.and_self, cond_true, Int.toNat_natCast, hx, decide_eq_true h200, h7, Option.bind_some]
        · obtain ⟨r, q1, q2⟩ := scan4 G7 G8 G9 h7 ps ahead behind b m all i hi all[i] hx (by omega) hml
          rcases q2 with rfl | ⟨rfl, q3⟩
          · refine .inr ⟨.inr ((true, ()), ()), ?_, .inl rfl⟩
            simp only [B4_1, nat_lt, nat_nn, hi, decide_true, Bool.and_self, cond_true, cond_false, Int.toNat_natCast, hx, decide_eq_false h200, q1, Option.bind_some]
          · refine .inl ⟨_, ?_, ⟨i + 1, rfl, hi, fun x hxm => ?_⟩, ?_⟩
            · simp only [B4_1, nat_lt, nat_nn, hi, decide_true, Bool.and_self, cond_true, cond_false, Int.toNat_natCast, hx, decide_eq_false h200, q1, Option.bind_some, hw]
            · rw [List.take_succ_eq_append_getElem hi, List.mem_append, List.mem_singleton] at hxm
              rcases hxm with hxm | rfl
              · exact g2 x hxm
              · exact ⟨by omega, q3⟩
            · show all.length - ((i + 1 : Nat) : Int).toNat < all.length - (i : Int).toNat
              omega
      · refine .inr ⟨.inl ((ps, ahead, behind, b, m, ()), ()), ?_, .inr ⟨rfl, ?_⟩⟩
        · simp only [B4_1, nat_lt, hi, decide_false, cond_false]
        · rw [List.take_of_length_le (by omega)] at g2
          exact g2)
    (p := ((ps, ahead, behind, b, m, (), (0 : Int), ()), (all, ()))) ⟨0, rfl, Nat.zero_le _, by simp⟩ (by
      have := FUEL_big
      show all.length - (0 : Int).toNat < FUEL
      omega)
  exact ⟨r, h1, h2⟩

/-- pieces, each behind its mark -/
def blk (m : List UInt8) : List (List UInt8) → List UInt8
  | [] => []
  | p :: ps => m ++ 13 :: 10 :: (p ++ 13 :: 10 :: blk m ps)

theorem blk_snoc (m : List UInt8) : ∀ (ps : List (List UInt8)) (p : List UInt8), blk m (ps ++ [p]) = blk m ps ++ m ++ [13, 10] ++ p ++ [13, 10]
  | [], p => by simp [blk]
  | q :: ps, p => by simp [blk, blk_snoc m ps p]

theorem blk_len (m : List UInt8) (N : Nat) : ∀ ps : List (List UInt8), (∀ p ∈ ps, p.length ≤ 200) → m.length ≤ 100 → (blk m ps).length ≤ 304 * ps.length
  | [], _, _ => by simp [blk]
  | p :: ps, h, hm => by
    have h1 := blk_len m N ps (fun q hq => h q (by simp [hq])) hm
    have h2 := h p (by simp)
    simp only [blk, List.length_append, List.length_cons]
    omega

theorem lays_blk (b behind : List UInt8) : ∀ ps : List (List UInt8), lays b behind ps = blk (45 :: 45 :: b) ps ++ (45 :: 45 :: b) ++ [45, 45, 13, 10] ++ behind
  | [] => by simp [lays, blk]
  | p :: ps => by simp [lays, blk, lays_blk b behind ps]

theorem text4 (G7 : T7) (G8 : T8) (G9 : T9) (ps : List (List UInt8)) (behind m t : List UInt8) (h8 : ps.length ≤ 8) (hp : ∀ p ∈ ps, p.length ≤ 200) (hm : m.length ≤ 100) (ht : t.length ≤ 1000) :
    L4_3 G7 G8 G9 ((ps, behind, m, t, (0 : Int), ()), ()) = some ((ps, behind, m, t ++ blk m ps, ()), ()) := by
  obtain ⟨r, h1, rfl⟩ := loop_ind (f := B4_3 G7 G8 G9)
    (I := fun p => ∃ i : Nat, p = ((ps, behind, m, t ++ blk m (ps.take i), (i : Int), ()), ()) ∧ i ≤ ps.length)
    (μ := fun p => ps.length - p.1.2.2.2.2.1.toNat)
    (Q := fun r => r = ((ps, behind, m, t ++ blk m ps, ()), ()))
    (step := fun p hp' => by
      obtain ⟨i, rfl, g⟩ := hp'
      by_cases hi : i < ps.length
      · have hw := w64_nat (show i < 9223372036854775807 by omega)
        have hx : ps.getD i [] = ps[i] := by rw [List.getD_eq_getElem?_getD, List.getElem?_eq_getElem hi]; rfl
        have hpl := hp ps[i] (List.getElem_mem hi)
        have hbl := blk_len m 0 (ps.take i) (fun p h => hp p (List.mem_of_mem_take h)) hm
        rw [List.length_take] at hbl
        have hsn := blk_snoc m (ps.take i) ps[i]
        rw [← List.take_succ_eq_append_getElem hi] at hsn
        generalize blk m (ps.take i) = B at hbl hsn
        generalize ps[i] = q at hx hpl hsn
        refine .inl ⟨_, ?_, ⟨i + 1, rfl, hi⟩, ?_⟩
        · have ha : t ++ (B ++ m ++ [13, 10] ++ q ++ [13, 10]) = t ++ B ++ m ++ [13, 10] ++ q ++ [13, 10] := by simp
          rw [hsn, ha]
          simp only [B4_3, nat_lt, nat_nn, hi, decide_true, Bool.and_self, cond_true, Int.toNat_natCast, hx, Option.bind_some, hw,
            fits_le (show (t ++ B).length + m.length ≤ 100000 by simp; omega), fits_le (show (t ++ B ++ m).length + ([13, 10] : List UInt8).length ≤ 100000 by simp; omega),
            fits_le (show (t ++ B ++ m ++ [13, 10]).length + q.length ≤ 100000 by simp; omega), fits_le (show (t ++ B ++ m ++ [13, 10] ++ q).length + ([13, 10] : List UInt8).length ≤ 100000 by simp; omega)]
        · show ps.length - ((i + 1 : Nat) : Int).toNat < ps.length - (i : Int).toNat
          omega
      · have : i = ps.length := by omega
        subst this
        refine .inr ⟨_, ?_, rfl⟩
        simp only [B4_3, nat_lt, hi, decide_false, cond_false, List.take_length])
    (p := ((ps, behind, m, t, (0 : Int), ()), ())) ⟨0, by simp [blk], Nat.zero_le _⟩ (by
      have := FUEL_big
      show ps.length - (0 : Int).toNat < FUEL
      omega)
  exact h1

end Go.Mi

namespace Go.Mi
open Go Go.Ev
set_option maxRecDepth 100000

theorem kx_prefix (n : Nat) (L : List Pc) (m : Nat) : ∀ d : Nat, kx n L m <+: kx n L (m + d)
  | 0 => List.prefix_refl _
  | d + 1 => by
    rw [← Nat.add_assoc, kx_succ]
    exact (kx_prefix n L m d).trans (List.prefix_append _ _)

/-- the piece at a place is the one of its number -/
theorem kx_at (n : Nat) (L : List Pc) (i : Nat) (hi : i < L.length) (h : ow (pk L i) = (n : Int)) : ∃ hk : (kx n L i).length < (kx n L L.length).length, (kx n L L.length)[(kx n L i).length]'hk = i := by
  have hp := kx_prefix n L (i + 1) (L.length - (i + 1))
  rw [show i + 1 + (L.length - (i + 1)) = L.length by omega, kx_succ, if_pos h] at hp
  obtain ⟨t, ht⟩ := hp
  have hl := congrArg List.length ht
  simp only [List.length_append, List.length_singleton] at hl
  refine ⟨by omega, ?_⟩
  simp only [← ht]
  rw [List.getElem_append_left (by simp), List.getElem_append_right (Nat.le_refl _)]
  simp

def Cut (T : List UInt8) (L : List Pc) (i : Nat) (p : List UInt8) : Prop := 0 ≤ fr (pk L i) ∧ fr (pk L i) ≤ tt (pk L i) ∧ tt (pk L i) ≤ T.length ∧ List.take ((tt (pk L i)).toNat - (fr (pk L i)).toNat) (List.drop (fr (pk L i)).toNat T) = p

theorem loop4 (G7 : T7) (G8 : T8) (G9 : T9) (ps : List (List UInt8)) (T : List UInt8) (E : Int) (L : List Pc) (hL : L.length ≤ 32) (hps : ps.length ≤ 8) (hK : (kx 0 L L.length).length = ps.length)
    (h8 : ∀ k : Nat, k < 8 → G8 (((((k + 1 : Nat) : Int)), ()), ()) = some (([UInt8.ofNat (49 + k)], (0 : Int), ()), ()))
    (h9 : ∀ (k : Nat) (hk : k < (kx 0 L L.length).length), k < 8 → G9 ((T, [UInt8.ofNat (49 + k)], ()), ()) = some ((bo (pk L ((kx 0 L L.length)[k]'hk)), tt (pk L ((kx 0 L L.length)[k]'hk)), (0 : Int), ()), ()))
    (hC : ∀ (k : Nat) (hk : k < (kx 0 L L.length).length) (hk' : k < ps.length), Cut T L ((kx 0 L L.length)[k]'hk) (ps[k]'hk')) :
    L4_4 G7 G8 G9 ((ps, T, (), E, (0 : Int), (0 : Int), ()), (L, ())) = some (.inl ((ps, E, (ps.length : Int), ()), ())) := by
  obtain ⟨r, h1, rfl⟩ := loop_ind (f := B4_4 G7 G8 G9)
    (I := fun p => ∃ i : Nat, p = ((ps, T, (), E, (((kx 0 L i).length : Nat) : Int), (i : Int), ()), (L, ())) ∧ i ≤ L.length)
    (μ := fun p => L.length - p.1.2.2.2.2.2.1.toNat)
    (Q := fun r => r = .inl ((ps, E, (ps.length : Int), ()), ()))
    (step := fun p hp => by
      obtain ⟨i, rfl, g⟩ := hp
      by_cases hlt : i < L.length
      · have hw := w64_nat (show i < 9223372036854775807 by omega)
        have hm : L.length - ((i + 1 : Nat) : Int).toNat < L.length - (i : Int).toNat := by omega
        have hat := kx_at 0 L i hlt
        have hsu := kx_succ 0 L i
        have hCi := fun hk hk' => hC (kx 0 L i).length hk hk'
        have h9i := fun hk h8 => h9 (kx 0 L i).length hk h8
        rcases hq : pk L i with ⟨kk, pa, f, a, b, t, o, d, nn, u⟩
        have hg : List.getD L i (([]:List UInt8), (([]:(List ((List UInt8) × ((List UInt8) × Unit)))), (([]:(List ((List UInt8) × ((List UInt8) × (Int × Unit))))), ((0:Int), ((0:Int), ((0:Int), ((0:Int), ((0:Int), ((0:Int), ()))))))))) = (kk, pa, f, a, b, t, o, d, nn, u) := hq
        have ho : ow (pk L i) = o := by rw [hq]; rfl
        rw [ho] at hat hsu
        by_cases h : o = 0
        · obtain ⟨hk, hki⟩ := hat h
          have hc := hCi hk (by omega)
          have h9' := h9i hk (by omega)
          rw [hki] at hc h9'
          rw [if_pos (by rw [h]; rfl)] at hsu
          unfold Cut at hc
          rw [hq] at hc h9'
          obtain ⟨c1, c2, c3, c4⟩ := hc
          have c1 : 0 ≤ a := c1
          have c2 : a ≤ t := c2
          have c3 : t ≤ (T.length : Int) := c3
          have c5 : List.take (t.toNat - a.toNat) (List.drop a.toNat T) = ps.getD (kx 0 L i).length [] := by
            rw [List.getD_eq_getElem?_getD, List.getElem?_eq_getElem (by omega)]; exact c4
          have h9' : G9 ((T, [UInt8.ofNat (49 + (kx 0 L i).length)], ()), ()) = some ((b, t, (0 : Int), ()), ()) := h9'
          have h8' := h8 (kx 0 L i).length (by omega)
          have hkn : (kx 0 L (i + 1)).length = (kx 0 L i).length + 1 := by rw [hsu]; simp
          have hkl : (kx 0 L i).length < ps.length := by omega
          clear c4 hCi h9i hki hat hsu
          generalize (kx 0 L i).length = k at *
          have hwk := w64_nat (show k < 9223372036854775807 by omega)
          have d1 : decide ((0 : Int) ≤ a) = true := decide_eq_true c1
          have d2 : decide (a ≤ t) = true := decide_eq_true c2
          have d3 : decide (t ≤ (T.length : Int)) = true := decide_eq_true c3
          have d4 : decide ((T.length : Int) < t) = false := decide_eq_false (by omega)
          have d5 : decide (t < a) = false := decide_eq_false (by omega)
          have d6 : decide ((ps.length : Int) ≤ (k : Int)) = false := decide_eq_false (by omega)
          have d7 : decide ((0 : Int) = 0) = true := rfl
          refine .inl ⟨_, ?_, ⟨i + 1, rfl, hlt⟩, hm⟩
          rw [hkn]
          simp only [B4_4, nat_lt, nat_nn, hlt, hkl, decide_true, Bool.and_self, cond_true, Int.toNat_natCast, hg, h, d7, Bool.not_true, cond_false, Bool.true_or, d1, d2, d3, d4, d5, d6, Bool.or_self, c5, hwk, h8', Option.bind_some, h9', Bool.or_false, hw]
        · rw [if_neg (fun h' => h (by rw [h']; rfl)), List.append_nil] at hsu
          refine .inl ⟨_, ?_, ⟨i + 1, rfl, hlt⟩, hm⟩
          rw [hsu]
          simp only [B4_4, nat_lt, nat_nn, hlt, decide_true, Bool.and_self, cond_true, Int.toNat_natCast, hg, decide_eq_false h, Bool.not_false, Option.bind_some, hw]
      · have : i = L.length := by omega
        subst this
        refine .inr ⟨_, ?_, rfl⟩
        rw [hK]
        simp only [B4_4, nat_lt, hlt, decide_false, cond_false])
    (p := ((ps, T, (), E, (0 : Int), (0 : Int), ()), (L, ()))) ⟨0, rfl, Nat.zero_le _⟩ (by
      have := FUEL_big
      show L.length - (0 : Int).toNat < FUEL
      omega)
  exact h1

theorem spans_get (b behind : List UInt8) : ∀ (ps : List (List UInt8)) (P : List UInt8) (k : Nat) (hk : k < ps.length) (hk' : k < (spans b P.length ps).length),
    0 ≤ ((spans b P.length ps)[k]'hk').1 ∧ ((spans b P.length ps)[k]'hk').1 ≤ ((spans b P.length ps)[k]'hk').2.1 ∧ ((spans b P.length ps)[k]'hk').2.1 ≤ (P ++ lays b behind ps).length ∧
      List.take ((((spans b P.length ps)[k]'hk').2.1).toNat - (((spans b P.length ps)[k]'hk').1).toNat) (List.drop (((spans b P.length ps)[k]'hk').1).toNat (P ++ lays b behind ps)) = ps[k]'hk
  | [], P, k, hk, _ => absurd hk (Nat.not_lt_zero k)
  | p :: ps, P, 0, _, _ => by
    have e : P ++ lays b behind (p :: ps) = (P ++ ((45 :: 45 :: b) ++ [13, 10])) ++ (p ++ 13 :: 10 :: lays b behind ps) := by simp [lays]
    have l1 : (P ++ ((45 :: 45 :: b) ++ [13, 10])).length = P.length + (b.length + 4) := by simp
    simp only [spans, List.getElem_cons_zero]
    rw [e]
    refine ⟨by omega, by omega, ?_, ?_⟩
    · rw [List.length_append, l1, List.length_append]; omega
    · rw [Int.toNat_natCast, Int.toNat_natCast, ← l1, drop_app]
      rw [Nat.add_sub_cancel_left, take_app]
  | p :: ps, P, k + 1, hk, hk' => by
    have e : P ++ lays b behind (p :: ps) = (P ++ ((45 :: 45 :: b) ++ [13, 10]) ++ p ++ [13, 10]) ++ lays b behind ps := by simp [lays]
    have l1 : (P ++ ((45 :: 45 :: b) ++ [13, 10]) ++ p ++ [13, 10]).length = P.length + (b.length + 4) + p.length + 2 := by simp; omega
    have hs : spans b P.length (p :: ps) = (((P.length + (b.length + 4) : Nat) : Int), ((P.length + (b.length + 4) + p.length : Nat) : Int), ()) :: spans b (P ++ ((45 :: 45 :: b) ++ [13, 10]) ++ p ++ [13, 10]).length ps := by
      rw [spans, l1]
    rw [e]
    simp only [hs, List.getElem_cons_succ]
    simp only [hs, List.length_cons] at hk'
    simp only [List.length_cons] at hk
    exact spans_get b behind ps _ k (by omega) (by omega)

theorem spans_len (b : List UInt8) : ∀ (ps : List (List UInt8)) (pos : Nat), (spans b pos ps).length = ps.length
  | [], _ => rfl
  | p :: ps, pos => by rw [spans, List.length_cons, List.length_cons, spans_len b ps]

theorem spans_shift (b : List UInt8) : ∀ (ps : List (List UInt8)) (H pos k : Nat) (hk : k < (spans b pos ps).length) (hk' : k < (spans b (H + pos) ps).length),
    ((spans b (H + pos) ps)[k]'hk').1 = (H : Int) + ((spans b pos ps)[k]'hk).1 ∧ ((spans b (H + pos) ps)[k]'hk').2.1 = (H : Int) + ((spans b pos ps)[k]'hk).2.1
  | [], _, _, k, hk, _ => absurd hk (Nat.not_lt_zero k)
  | p :: ps, H, pos, 0, _, _ => by
    simp only [spans, List.getElem_cons_zero]
    omega
  | p :: ps, H, pos, k + 1, hk, hk' => by
    have e : H + pos + (b.length + 4) + p.length + 2 = H + (pos + (b.length + 4) + p.length + 2) := by omega
    simp only [spans, List.getElem_cons_succ, e]
    exact spans_shift b ps H _ k _ _

end Go.Mi

namespace Go.Mi
open Go Go.Ev
set_option maxRecDepth 100000

theorem law4g (G7 : T7) (G8 : T8) (G9 : T9) (h7 : G7 ((), ()) = some (true, ()))
    (h8 : ∀ k : Nat, k < 8 → G8 (((((k + 1 : Nat) : Int)), ()), ()) = some (([UInt8.ofNat (49 + k)], (0 : Int), ()), ()))
    (h9 : ∀ (l b : List UInt8), Letters b → b.length ≤ 70 → parseOK l = true → parseE l = 0 → 0 < (parseL l).length → (parseL l).length ≤ 32 → ∀ n : Nat, pk (parseL l) 0 = pMany b n → ∀ k : Nat, k < 8 → ∀ hk : k < (kx 0 (parseL l) (parseL l).length).length,
      G9 ((l, [UInt8.ofNat (49 + k)], ()), ()) = some ((bo (pk (parseL l) ((kx 0 (parseL l) (parseL l).length)[k]'hk)), tt (pk (parseL l) ((kx 0 (parseL l) (parseL l).length)[k]'hk)), (0 : Int), ()), ()))
    (parts : List (List UInt8)) (seed : Int) (h0 : 0 ≤ seed) (ahead behind : List UInt8) : F4a G7 G8 G9 ((parts, seed, ahead, behind, ()), ()) = some (true, ()) := by
  obtain ⟨ps, hps, hcond⟩ : ∃ ps : List (List UInt8), ps.length ≤ 8 ∧ (cond (decide ((8:Int) < (((List.length parts) : Nat) : Int))) (cond (decide ((8:Int) ≤ (((List.length parts) : Nat) : Int))) (some (((List.take 8 parts), seed, ahead, behind, ()), ())) none) (some ((parts, seed, ahead, behind, ()), ()))) = some ((ps, seed, ahead, behind, ()), ()) := by
    by_cases h : (8 : Int) < (((List.length parts) : Nat) : Int)
    · exact ⟨parts.take 8, by simp; omega, by rw [decide_eq_true h, decide_eq_true (show (8 : Int) ≤ (((List.length parts) : Nat) : Int) by omega)]; rfl⟩
    · exact ⟨parts, by omega, by rw [decide_eq_false h]; rfl⟩
  obtain ⟨b, hL0, hb, hbl⟩ := bound4 G7 G8 G9 ps seed h0 ahead behind
  have hm : ([45, 45] ++ b).length ≤ 100 := by simp; omega
  have hal : ([ahead, behind] ++ ps).length ≤ 100 := by simp; omega
  obtain ⟨r1, hL1, hr1⟩ := all4 G7 G8 G9 h7 ps ahead behind b ([45, 45] ++ b) ([ahead, behind] ++ ps) hal hm
  have f1 : fits (([45, 45] : List UInt8).length + b.length) = true := fits_le (by simp; omega)
  have f2 : bytesOK (([ahead, behind] : List (List UInt8)).length + ps.length) 24 = true := decide_eq_true (by simp; omega)
  unfold F4a
  simp only [hcond, Option.bind_some, hL0, f1, f2, cond_true, hL1]
  rcases hr1 with rfl | ⟨rfl, hall⟩
  · simp only [Option.bind_some]
  · simp only [Option.bind_some]
    have ha := hall ahead (by simp)
    have hbe := hall behind (by simp)
    have hp200 : ∀ p ∈ ps, p.length ≤ 200 := fun p hp => (hall p (by simp [hp])).1
    have hpm : ∀ p ∈ ps, ¬ ([45, 45] ++ b) <:+: p := fun p hp => (hall p (by simp [hp])).2
    by_cases hn : ps.length = 0
    · have e : decide ((((List.length ps) : Nat) : Int) = 0) = true := decide_eq_true (by omega)
      simp only [e, cond_true, h7, Option.bind_some]
    · have e : decide ((((List.length ps) : Nat) : Int) = 0) = false := decide_eq_false (by omega)
      have g1 : fits (hdC.length + b.length) = true := fits_le (by simp [hdC]; omega)
      have g2 : fits ((hdC ++ b).length + ([34, 13, 10, 13, 10] : List UInt8).length) = true := fits_le (by simp [hdC]; omega)
      have g3 : fits ((hdC ++ b ++ [34, 13, 10, 13, 10]).length + ahead.length) = true := fits_le (by simp [hdC]; omega)
      have g4 : fits ((hdC ++ b ++ [34, 13, 10, 13, 10] ++ ahead).length + ([13, 10] : List UInt8).length) = true := fits_le (by simp [hdC]; omega)
      have g5 := text4 G7 G8 G9 ps behind ([45, 45] ++ b) (hdC ++ b ++ [34, 13, 10, 13, 10] ++ ahead ++ [13, 10]) hps hp200 hm (by simp [hdC]; omega)
      have hblk : (blk (45 :: 45 :: b) ps).length ≤ 304 * ps.length := blk_len ([45, 45] ++ b) 0 ps hp200 hm
      have g6 : fits ((hdC ++ b ++ [34, 13, 10, 13, 10] ++ ahead ++ [13, 10] ++ blk ([45, 45] ++ b) ps).length + ([45, 45] ++ b).length) = true := fits_le (by simp [hdC]; omega)
      have g7 : fits ((hdC ++ b ++ [34, 13, 10, 13, 10] ++ ahead ++ [13, 10] ++ blk ([45, 45] ++ b) ps ++ ([45, 45] ++ b)).length + ([45, 45, 13, 10] : List UInt8).length) = true := fits_le (by simp [hdC]; omega)
      have g8 : fits ((hdC ++ b ++ [34, 13, 10, 13, 10] ++ ahead ++ [13, 10] ++ blk ([45, 45] ++ b) ps ++ ([45, 45] ++ b) ++ [45, 45, 13, 10]).length + behind.length) = true := fits_le (by simp [hdC]; omega)
      have hT : hdC ++ b ++ [34, 13, 10, 13, 10] ++ ahead ++ [13, 10] ++ blk ([45, 45] ++ b) ps ++ ([45, 45] ++ b) ++ [45, 45, 13, 10] ++ behind = hdr b ++ (ahead ++ 13 :: 10 :: lays b behind ps) := by
        rw [lays_blk]
        simp [hdr]
      have hTl : (hdr b ++ (ahead ++ 13 :: 10 :: lays b behind ps)).length ≤ 1100000 := by
        rw [← hT]
        simp [hdC]
        omega
      obtain ⟨hok, hpar⟩ := parse_many b (ahead ++ 13 :: 10 :: lays b behind ps) hb (by omega) hTl
      have hcut : cutw (ahead ++ 13 :: 10 :: lays b behind ps) b 0 (-1) [] = spans b (ahead.length + 2) ps := by
        rw [skip b ahead.length ahead _ _ _ _ (Nat.le_refl _) ha.2, cut_lays b behind hb ps _ _ _ hpm (fun h => absurd h (by decide)), if_neg (by decide), List.nil_append, Nat.zero_add]
      rw [hcut] at hpar
      have h9' := h9 (hdr b ++ (ahead ++ 13 :: 10 :: lays b behind ps)) b hb (by omega) hok
      have hdC' : ([88, 58, 32, 121, 13, 10, 67, 111, 110, 116, 101, 110, 116, 45, 84, 121, 112, 101, 58, 32, 109, 117, 108, 116, 105, 112, 97, 114, 116, 47, 109, 105, 120, 101, 100, 59, 32, 98, 111, 117, 110, 100, 97, 114, 121, 61, 34]:List UInt8) = hdC := rfl
      simp only [e, cond_false, cond_true, hdC', g1, g2, g3, g4, Option.bind_some, g5, g6, g7, g8, hT, hok]
      have hget := spans_get b behind ps (hdr b ++ (ahead ++ [13, 10]))
      have hTT : hdr b ++ (ahead ++ [13, 10]) ++ lays b behind ps = hdr b ++ (ahead ++ 13 :: 10 :: lays b behind ps) := by simp
      have hPl : (hdr b ++ (ahead ++ [13, 10])).length = (hdr b).length + (ahead.length + 2) := by simp
      rw [hTT] at hget
      generalize hdr b ++ (ahead ++ 13 :: 10 :: lays b behind ps) = T at *
      rcases hpar with hE | ⟨hE, m, n, hK, hTo⟩
      · simp only [hE, decide_true, cond_true, h7, Option.bind_some]
      · have hx0 := hK.pre 0 (Nat.le_refl _)
        have hmore := hK.more
        have hfew := hK.few
        have hx0 : pk (parseL T) 0 = pMany b T.length := hx0
        have h9'' := h9' hE hmore hfew T.length hx0
        unfold Told at hTo
        simp only [List.length_nil] at hTo
        have hKl : (kx 0 (parseL T) (parseL T).length).length = ps.length := by
          have := congrArg List.length hTo
          rwa [List.length_map, List.length_map, spans_len] at this
        have hl4 := loop4 G7 G8 G9 ps T 0 (parseL T) hfew hps hKl h8 (fun k hk h => h9'' k h hk) (fun k hk hk' => by
          have hsp : k < (spans b (hdr b ++ (ahead ++ [13, 10])).length ps).length := by rw [spans_len]; exact hk'
          obtain ⟨s1, s2, s3, s4⟩ := hget k hk' hsp
          have hsp2 : k < (spans b (ahead.length + 2) ps).length := by rw [spans_len]; exact hk'
          have hsh := spans_shift b ps (hdr b).length (ahead.length + 2) k hsp2 (by rw [spans_len]; exact hk')
          simp only [hPl] at s1 s2 s3 s4
          have hmap : ends (parseL T) ((kx 0 (parseL T) (parseL T).length)[k]'hk) = at_ (pMany b T.length) ((spans b (ahead.length + 2) ps)[k]'hsp2) := by
            have := List.getElem_of_eq hTo (i := k) (by simpa using hk)
            rwa [List.getElem_map, List.getElem_map] at this
          unfold ends at_ at hmap
          simp only [Prod.mk.injEq] at hmap
          have hbo : bo (pMany b T.length) = (((hdr b).length : Nat) : Int) := rfl
          rw [hbo, ← hsh.1, ← hsh.2] at hmap
          unfold Cut
          rw [hmap.1, hmap.2]
          exact ⟨s1, s2, s3, s4⟩)
        have z : decide ((0 : Int) = 6) = false := rfl
        simp only [hE, z, cond_false, Option.bind_some, hl4, h7, decide_true, Bool.and_self]

theorem u32_nonneg {n : Int} (h : (Lit.int .u32 n).wf = true) : 0 ≤ n := by
  simp only [Lit.wf, IntKind.min, IntKind.max, IntKind.signed, IntKind.bits, Bool.and_eq_true, decide_eq_true_eq, if_true, Bool.false_eq_true, if_false] at h
  omega

theorem F8_digit : ∀ k : Nat, k < 8 → F8 (((((k + 1 : Nat) : Int)), ()), ()) = some (([UInt8.ofNat (49 + k)], (0 : Int), ()), ())
  | 0, _ => by kernel_rfl
  | 1, _ => by kernel_rfl
  | 2, _ => by kernel_rfl
  | 3, _ => by kernel_rfl
  | 4, _ => by kernel_rfl
  | 5, _ => by kernel_rfl
  | 6, _ => by kernel_rfl
  | 7, _ => by kernel_rfl
  | _ + 8, h => by omega

theorem law4 (parts : List (List UInt8)) (seed : Int) (h0 : 0 ≤ seed) (ahead behind : List UInt8) : F4 ((parts, seed, ahead, behind, ()), ()) = some (true, ()) :=
  law4g F7 F8 F9 live_true F8_digit (fun l b hb h70 hok he h0 hL n hp k h8 hk => section_many l b hb h70 hok he h0 hL n hp k h8 hk) parts seed h0 ahead behind

end Go.Mi
