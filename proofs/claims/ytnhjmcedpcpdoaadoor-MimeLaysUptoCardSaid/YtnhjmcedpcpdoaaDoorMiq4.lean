/- Pieces: always read; how they lie. -/
import Derived.Test.YtnhjmcedpcpdoaaDoorMiq3
namespace Go.Mi
open Go Go.Ev
set_option maxRecDepth 100000

theorem tl4_ok (G : A14 → Option R14') (l : List UInt8) (hl : l.length ≤ 1100000) (L0 : List Pc) (F : List Fld) (a B t o d n : Int) (h0 : ∀ i, i < L0.length → ow (pk L0 i) < i) (h32 : L0.length < 32) (hx : o < L0.length) (hd0 : 0 ≤ d) (hd8 : d ≤ 8)
    (hfr : 0 ≤ B) (hbt : B ≤ t) (htl : t ≤ l.length) (hF : F.length ≤ 40) (hFx : ∀ f ∈ F, f.1.length ≤ l.length ∧ f.2.1.length ≤ l.length) (hG : d < 8 → Below14 G l (d + 1)) :
    ∃ r, tl4 G (((), (), ()), ((l, (), ()), L0, ((), [], F, a, B, t, o, d, n, ()), ())) = some r ∧ ((∃ L', r = (.inr (), ((l, (), ()), (L', ())))) ∨ ∃ L' K P, r = (.inl (), ((l, (), ()), (L', ()))) ∧ ∃ m n', Kids L0 (K, P, F, a, B, t, o, d, n, ()) L' m n') := by
  have hm : maxLen = 9223372036854775807 := rfl
  obtain ⟨v, is, g1, g2⟩ := get_ok F [99, 111, 110, 116, 101, 110, 116, 45, 116, 121, 112, 101] l.length (by omega) (by rw [hm]; simp) (by omega) hFx
  have key : ∀ (K : List UInt8) (P : Par), P.length ≤ 2000000 → (∀ z ∈ P, z.2.1.length ≤ 8000000) → ∃ r, tl7 G (((), (), ()), ((l, (), ()), L0, (K, P, F, a, B, t, o, d, n, ()), ())) = some r ∧ ((∃ L', r = (.inr (), ((l, (), ()), (L', ())))) ∨ ∃ L' K P, r = (.inl (), ((l, (), ()), (L', ()))) ∧ ∃ m n', Kids L0 (K, P, F, a, B, t, o, d, n, ()) L' m n') := fun K P hP hPx => by
    obtain ⟨r, q1, q2⟩ := tl7_ok G l hl L0 (K, P, F, a, B, t, o, d, n, ()) h0 h32 hx hd0 hd8 hfr hbt htl hP hPx hG
    refine ⟨r, q1, ?_⟩
    rcases q2 with q2 | ⟨L', h1, h2⟩
    · exact .inl q2
    · exact .inr ⟨L', K, P, h1, h2⟩
  unfold tl4
  simp only [g1, Option.bind_some]
  cases is
  · obtain ⟨r, q1, q2⟩ := key [116, 101, 120, 116, 47, 112, 108, 97, 105, 110] [] (by simp) (by simp)
    refine ⟨r, ?_, q2⟩
    simp only [cond_false, Option.bind_some]
    exact q1
  · obtain ⟨k, e, P, p1, p2, p3⟩ := F10_ok v l.length hl g2
    simp only [cond_true, p1, Option.bind_some]
    cases he : decide (e = 0)
    · obtain ⟨r, q1, q2⟩ := key [116, 101, 120, 116, 47, 112, 108, 97, 105, 110] [] (by simp) (by simp)
      refine ⟨r, ?_, q2⟩
      simp only [cond_false, Option.bind_some]
      exact q1
    · obtain ⟨r, q1, q2⟩ := key k P (by omega) (fun z hz => by have := p3 z hz; omega)
      refine ⟨r, ?_, q2⟩
      simp only [cond_true, Option.bind_some]
      exact q1

theorem piece_ok (G : A14 → Option R14') (l : List UInt8) (hl : l.length ≤ 1100000) (L0 : List Pc) (x : Pc) (hp : Pre l L0 x) (hG : de x < 8 → Below14 G l (de x + 1)) : ∃ r, F14s G (arg14 l L0 x) = some r ∧ Good14 l L0 x r := by
  obtain ⟨k, pa, f, a, b, t, o, d, n, u⟩ := x
  obtain ⟨few, own, how, hfr, hft, htl, hd0, hd8, hpar, hfld⟩ := hp
  simp only [ow, fr, tt, de] at how hfr hft htl hd0 hd8 hpar hfld hG
  subst hpar hfld
  rw [F14s_eq]
  unfold arg14
  by_cases h32 : L0.length = 32
  · have e : decide ((L0.length : Int) = 32) = true := decide_eq_true (by omega)
    refine ⟨(.inr (), ((l, (), ()), (L0, ()))), ?_, .inl ⟨L0, rfl⟩⟩
    simp only [e, cond_true, Option.bind_some]
  · have e : decide ((L0.length : Int) = 32) = false := decide_eq_false (by omega)
    have k1 : decide ((0 : Int) ≤ a) = true := decide_eq_true hfr
    have k2 : decide (a ≤ t) = true := decide_eq_true hft
    have k3 : decide (t ≤ (l.length : Int)) = true := decide_eq_true htl
    have hsl := sub_len l a t hfr hft htl
    have hF := F29_eq (List.take (t.toNat - a.toNat) (List.drop a.toNat l)) (by omega)
    obtain ⟨s1, s2, s3⟩ := split_ok (List.take (t.toNat - a.toNat) (List.drop a.toNat l))
    have key : ∀ (F : List Fld) (B : Int), a ≤ B → B ≤ t → F.length ≤ 40 → (∀ f ∈ F, f.1.length ≤ l.length ∧ f.2.1.length ≤ l.length) → ∃ r, tl4 G (((), (), ()), ((l, (), ()), L0, ((), [], F, a, B, t, o, d, n, ()), ())) = some r ∧ Good14 l L0 (k, [], [], a, b, t, o, d, n, u) r := fun F B hB1 hB2 h40 hFx => by
      obtain ⟨r, q1, q2⟩ := tl4_ok G l hl L0 F a B t o d n own (by omega) how hd0 hd8 (by omega) hB2 htl h40 hFx hG
      refine ⟨r, q1, ?_⟩
      rcases q2 with q2 | ⟨L', K, P, rfl, m, n', hk⟩
      · exact .inl q2
      · exact .inr ⟨L', rfl, hk.post rfl rfl rfl rfl rfl hB1 hB2⟩
    simp only [e, cond_false, Option.bind_some, k1, k2, k3, Bool.and_self, cond_true, hF]
    generalize split (List.take (t.toNat - a.toNat) (List.drop a.toNat l)) = S at s1 s2 s3
    cases he : decide (S.2.2.1 = 0)
    · obtain ⟨r, q1, q2⟩ := key [] a (Int.le_refl _) hft (by simp) (by simp)
      refine ⟨r, ?_, q2⟩
      simp only [cond_false, Option.bind_some]
      exact q1
    · obtain ⟨g1, g2⟩ := s1 (of_decide_eq_true he)
      have w : w64 (a + S.2.1) = a + S.2.1 := w64_id (by omega) (by omega)
      obtain ⟨r, q1, q2⟩ := key S.1 (a + S.2.1) (by omega) (by omega) s2 (fun f hf => by have := s3 f hf; omega)
      refine ⟨r, ?_, q2⟩
      simp only [cond_true, Option.bind_some, w]
      exact q1

theorem F14_ok (l : List UInt8) (hl : l.length ≤ 1100000) : ∀ (k : Nat) (L0 : List Pc) (x : Pc), Pre l L0 x → 9 - de x ≤ k → ∃ r, F14 k (arg14 l L0 x) = some r ∧ Good14 l L0 x r
  | 0, L0, x, hp, h => by have := hp.d8; omega
  | k + 1, L0, x, hp, h => piece_ok (F14 k) l hl L0 x hp fun h8 L y hy hd => F14_ok l hl k L y hy (by omega)

/-- A letter's pieces. -/
theorem parse_ok (l : List UInt8) (hl : l.length ≤ 1100000) : parseOK l = true ∧ ((parseE l = 6 ∧ parseL l = []) ∨ (parseE l = 0 ∧ Post [] ([], [], [], 0, 0, (l.length : Int), -1, 0, 0, ()) (parseL l))) := by
  obtain ⟨r, h1, h2⟩ := F14_ok l hl 12 [] ([], [], [], 0, 0, (l.length : Int), -1, 0, 0, ()) ⟨by simp, by simp, by show (-1 : Int) < 0; omega, Int.le_refl _, by show (0 : Int) ≤ l.length; omega, Int.le_refl _, Int.le_refl _, by show (0 : Int) ≤ 8; omega, rfl, rfl⟩ (by show (9 : Int) - 0 ≤ 12; omega)
  have hr : parseR l = some r := h1
  rcases h2 with ⟨L', rfl⟩ | ⟨L', rfl, hp⟩
  · exact ⟨by simp [parseOK, hr], .inl ⟨by simp [parseE, hr], by simp [parseL, hr]⟩⟩
  · refine ⟨by simp [parseOK, hr], .inr ⟨by simp [parseE, hr], ?_⟩⟩
    have : parseL l = L' := by simp [parseL, hr]
    rw [this]
    exact hp

end Go.Mi

namespace Go.Mi
open Go Go.Ev
set_option maxRecDepth 100000

theorem inner3 (L : List Pc) (hL : L.length ≤ 32) (i : Nat) (hi : i ≤ L.length) (x : Pc) (hx : ∀ k : Nat, 1 ≤ k → k < i → ow (pk L k) = ow x → tt (pk L k) ≤ fr x ∧ nu (pk L k) < nu x) :
    L3_1 (((), (i : Int), (), (1 : Int), ()), (L, x, ())) = some (.inl (((), (i : Int), ()), (L, ()))) := by
  have h := loop_ind (f := B3_1) (I := fun p => ∃ k : Nat, p = (((), (i : Int), (), (k : Int), ()), (L, x, ())) ∧ 1 ≤ k) (μ := fun p => i - p.1.2.2.2.1.toNat) (Q := fun r => r = .inl (((), (i : Int), ()), (L, ())))
    (step := fun p hp => by
      obtain ⟨k, rfl, g⟩ := hp
      by_cases hk : k < i
      · have hkl : k < L.length := by omega
        have hw := w64_nat (show k < 9223372036854775807 by omega)
        have hxk := hx k g hk
        refine .inl ⟨(((), (i : Int), (), ((k + 1 : Nat) : Int), ()), (L, x, ())), ?_, ⟨k + 1, rfl, by omega⟩, ?_⟩
        · obtain ⟨kk, pa, f, a, b, t, o, d, n, u⟩ := x
          rcases hq : pk L k with ⟨k2, pa2, f2, a2, b2, t2, o2, d2, n2, u2⟩
          have hg : List.getD L k (([]:List UInt8), (([]:(List ((List UInt8) × ((List UInt8) × Unit)))), (([]:(List ((List UInt8) × ((List UInt8) × (Int × Unit))))), ((0:Int), ((0:Int), ((0:Int), ((0:Int), ((0:Int), ((0:Int), ()))))))))) = (k2, pa2, f2, a2, b2, t2, o2, d2, n2, u2) := hq
          rw [hq] at hxk
          have hxk : o2 = o → t2 ≤ a ∧ n2 < n := hxk
          have hb : (decide (o2 = o) && (decide (a < t2) || decide (n ≤ n2))) = false := by
            by_cases ho : o2 = o
            · obtain ⟨q1, q2⟩ := hxk ho
              rw [decide_eq_true ho, decide_eq_false (by omega), decide_eq_false (by omega)]; rfl
            · rw [decide_eq_false ho]; rfl
          simp only [B3_1, nat_lt, nat_nn, hk, hkl, decide_true, Bool.and_self, cond_true, Bool.true_or, Int.toNat_natCast, hg, hb, cond_false, hw]
        · show i - ((k + 1 : Nat) : Int).toNat < i - (k : Int).toNat
          omega
      · refine .inr ⟨.inl (((), (i : Int), ()), (L, ())), ?_, rfl⟩
        simp only [B3_1, nat_lt, hk, decide_false, cond_false])
    (p := (((), (i : Int), (), (1 : Int), ()), (L, x, ()))) ⟨1, rfl, Nat.le_refl _⟩ (by
      have := FUEL_big
      show i - (1 : Int).toNat < FUEL
      omega)
  obtain ⟨r, h1, rfl⟩ := h
  exact h1

theorem outer3 (L : List Pc) (hL : L.length ≤ 32) (h0 : 0 ≤ fr (pk L 0) ∧ fr (pk L 0) ≤ bo (pk L 0) ∧ bo (pk L 0) ≤ tt (pk L 0) ∧ ow (pk L 0) < 0) (hF : ∀ i, 0 < i → i < L.length → Fine L i) :
    L3_0 (((), (0 : Int), ()), (L, ())) = some (.inl ((), ())) := by
  have h := loop_ind (f := B3_0) (I := fun p => ∃ i : Nat, p = (((), (i : Int), ()), (L, ())) ∧ i ≤ L.length) (μ := fun p => L.length - p.1.2.1.toNat) (Q := fun r => r = .inl ((), ()))
    (step := fun p hp => by
      obtain ⟨i, rfl, g⟩ := hp
      by_cases hi : i < L.length
      · have hw := w64_nat (show i < 9223372036854775807 by omega)
        refine .inl ⟨(((), ((i + 1 : Nat) : Int), ()), (L, ())), ?_, ⟨i + 1, rfl, hi⟩, ?_⟩
        · rcases hq : pk L i with ⟨kk, pa, f, a, b, t, o, d, n, u⟩
          have hg : List.getD L i (([]:List UInt8), (([]:(List ((List UInt8) × ((List UInt8) × Unit)))), (([]:(List ((List UInt8) × ((List UInt8) × (Int × Unit))))), ((0:Int), ((0:Int), ((0:Int), ((0:Int), ((0:Int), ((0:Int), ()))))))))) = (kk, pa, f, a, b, t, o, d, n, u) := hq
          by_cases hz : i = 0
          · subst hz
            rw [hq] at h0
            obtain ⟨q1, q2, q3, q4⟩ : 0 ≤ a ∧ a ≤ b ∧ b ≤ t ∧ o < 0 := h0
            have e1 : decide (b < a) = false := decide_eq_false (by omega)
            have e2 : decide (t < b) = false := decide_eq_false (by omega)
            have e3 : decide (a < 0) = false := decide_eq_false (by omega)
            have e4 : decide (((0 : Nat) : Int) ≤ o) = false := decide_eq_false (by omega)
            have e5 : decide (((0 : Nat) : Int) = 0) = true := rfl
            simp only [B3_0, nat_lt, nat_nn, hi, decide_true, Bool.and_self, cond_true, Int.toNat_natCast, hg, Option.bind_some, e1, e2, e3, e4, e5, Bool.or_false, cond_false, hw]
          · obtain ⟨q1, q2, q3, ⟨k, q4, q5, q6, q7, q8, q9, q10⟩, q11⟩ := hF i (Nat.pos_of_ne_zero hz) hi
            rw [hq] at q1 q2 q3 q4 q6 q7 q8 q11
            have q1 : 0 ≤ a := q1
            have q2 : a ≤ b := q2
            have q3 : b ≤ t := q3
            have q4 : o = (k : Int) := q4
            subst q4
            rcases hq2 : pk L k with ⟨k2, pa2, f2, a2, b2, t2, o2, d2, n2, u2⟩
            have hg2 : List.getD L k (([]:List UInt8), (([]:(List ((List UInt8) × ((List UInt8) × Unit)))), (([]:(List ((List UInt8) × ((List UInt8) × (Int × Unit))))), ((0:Int), ((0:Int), ((0:Int), ((0:Int), ((0:Int), ((0:Int), ()))))))))) = (k2, pa2, f2, a2, b2, t2, o2, d2, n2, u2) := hq2
            rw [hq2] at q6 q7 q8 q9 q10
            have q6 : b2 ≤ a := q6
            have q7 : t ≤ t2 := q7
            have q8 : d = d2 + 1 := q8
            have q9 : 0 ≤ d2 := q9
            have q10 : d2 ≤ 8 := q10
            have e1 : decide (b < a) = false := decide_eq_false (by omega)
            have e2 : decide (t < b) = false := decide_eq_false (by omega)
            have e3 : decide (a < 0) = false := decide_eq_false (by omega)
            have e4 : decide ((i : Int) ≤ (k : Int)) = false := decide_eq_false (by omega)
            have e5 : decide ((i : Int) = 0) = false := decide_eq_false (by omega)
            have hkl : k < L.length := by omega
            have e6 : decide (a < b2) = false := decide_eq_false (by omega)
            have e7 : decide (t2 < t) = false := decide_eq_false (by omega)
            have w : w64 (d2 + 1) = d2 + 1 := w64_id (by omega) (by omega)
            have e8 : decide (d = d2 + 1) = true := decide_eq_true q8
            have hin := inner3 L hL i g (kk, pa, f, a, b, t, (k : Int), d, n, u) q11
            simp only [B3_0, nat_lt, nat_nn, hi, hkl, decide_true, Bool.and_self, cond_true, Int.toNat_natCast, hg, hg2, Option.bind_some, e1, e2, e3, e4, e5, e6, e7, w, e8, Bool.or_false, Bool.not_true, cond_false, hw, hin]
        · show L.length - ((i + 1 : Nat) : Int).toNat < L.length - (i : Int).toNat
          omega
      · refine .inr ⟨.inl ((), ()), ?_, rfl⟩
        simp only [B3_0, nat_lt, hi, decide_false, cond_false])
    (p := (((), (0 : Int), ()), (L, ()))) ⟨0, rfl, Nat.zero_le _⟩ (by
      have := FUEL_big
      show L.length - (0 : Int).toNat < FUEL
      omega)
  obtain ⟨r, h1, rfl⟩ := h
  exact h1

theorem law3g (f7 : Unit × Unit → Option (Bool × Unit)) (h7 : f7 ((), ()) = some (true, ())) (ok : List UInt8 → Bool) (pl : List UInt8 → List PT.den) (pe : List UInt8 → Int) (l : List UInt8)
    (h1 : ok l = true) (h2 : (pe l = 6 ∧ pl l = []) ∨ (pe l = 0 ∧ Post [] ([], [], [], 0, 0, (l.length : Int), -1, 0, 0, ()) (pl l))) : F3v f7 ok pl pe ((l, ()), ()) = some (true, ()) := by
  unfold F3v
  rcases h2 with ⟨e, hl⟩ | ⟨e, hp⟩
  · have e1 : decide ((6 : Int) = 0) = false := rfl
    simp only [h1, cond_true, e, e1, Bool.not_false, h7, Option.bind_some, hl, List.length_nil, decide_true, Bool.and_self]
    rfl
  · generalize pl l = L at hp
    have hm : 0 < L.length := hp.more
    have e2 : decide ((0 : Int) < ((L.length : Nat) : Int)) = true := decide_eq_true (by omega)
    have e3 : decide (((L.length : Nat) : Int) = 0) = false := decide_eq_false (by omega)
    have hfr := hp.fr
    have htt := hp.tt
    have how := hp.ow
    have hfb := hp.fb
    have hbt := hp.bt
    simp only [List.length_nil] at hfr htt how hfb hbt
    have hout := outer3 L hp.few ⟨by rw [hfr]; exact Int.le_refl _, by rw [hfr]; exact hfb, by rw [htt]; exact hbt, by rw [how]; show (-1 : Int) < 0; omega⟩ (fun i h1 h2 => (hp.rest i h1 h2).1)
    rcases hq : pk L 0 with ⟨kk, pa, f, a, b, t, o, d, n, u⟩
    rw [hq] at hfr htt how
    have hfr : a = 0 := hfr
    have htt : t = (l.length : Int) := htt
    have how : o = -1 := how
    subst hfr htt how
    have hg : List.getD L 0 (([]:List UInt8), (([]:(List ((List UInt8) × ((List UInt8) × Unit)))), (([]:(List ((List UInt8) × ((List UInt8) × (Int × Unit))))), ((0:Int), ((0:Int), ((0:Int), ((0:Int), ((0:Int), ((0:Int), ()))))))))) = (kk, pa, f, 0, b, (l.length : Int), -1, d, n, u) := hq
    simp only [h1, cond_true, e, decide_true, Bool.not_true, cond_false, e2, e3, Bool.true_or, Bool.or_false, hg, hout, Option.bind_some, h7]

theorem law3 (l : List UInt8) (hl : l.length ≤ 1100000) : F3v F7 parseOK parseL parseE ((l, ()), ()) = some (true, ()) :=
  law3g F7 live_true parseOK parseL parseE l (parse_ok l hl).1 (parse_ok l hl).2

end Go.Mi
