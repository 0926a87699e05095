/- What the pieces of a letter are to one another. -/
import Derived.Test.YtnhjmcedpcpdoaaDoorMiq1
namespace Go.Mi
open Go Go.Ev
set_option maxRecDepth 100000

def d0 : Pc := ([], [], [], 0, 0, 0, 0, 0, 0, ())
def pk (L : List Pc) (i : Nat) : Pc := L.getD i d0
def fr (p : Pc) : Int := p.2.2.2.1
def bo (p : Pc) : Int := p.2.2.2.2.1
def tt (p : Pc) : Int := p.2.2.2.2.2.1
def ow (p : Pc) : Int := p.2.2.2.2.2.2.1
def de (p : Pc) : Int := p.2.2.2.2.2.2.2.1
def nu (p : Pc) : Int := p.2.2.2.2.2.2.2.2.1

theorem pk_app {L : List Pc} {x : Pc} {i : Nat} (h : i < L.length) : pk (L ++ [x]) i = pk L i := by
  unfold pk
  rw [List.getD_eq_getElem?_getD, List.getD_eq_getElem?_getD, List.getElem?_append_left h]

theorem pk_new (L : List Pc) (x : Pc) : pk (L ++ [x]) L.length = x := by
  unfold pk
  rw [List.getD_eq_getElem?_getD, List.getElem?_append_right (Nat.le_refl _)]
  simp

/-- how a piece lies -/
def Fine (L : List Pc) (i : Nat) : Prop :=
  0 ≤ fr (pk L i) ∧ fr (pk L i) ≤ bo (pk L i) ∧ bo (pk L i) ≤ tt (pk L i) ∧
  (∃ k : Nat, ow (pk L i) = k ∧ k < i ∧ bo (pk L k) ≤ fr (pk L i) ∧ tt (pk L i) ≤ tt (pk L k) ∧ de (pk L i) = de (pk L k) + 1 ∧ 0 ≤ de (pk L k) ∧ de (pk L k) ≤ 8) ∧
  ∀ k : Nat, 1 ≤ k → k < i → ow (pk L k) = ow (pk L i) → tt (pk L k) ≤ fr (pk L i) ∧ nu (pk L k) < nu (pk L i)

theorem Fine.same {L L' : List Pc} {i : Nat} (h : Fine L i) (hs : ∀ j, j ≤ i → pk L' j = pk L j) : Fine L' i := by
  obtain ⟨h1, h2, h3, ⟨k, h4, h5, h6⟩, h7⟩ := h
  unfold Fine
  rw [hs i (Nat.le_refl _)]
  refine ⟨h1, h2, h3, ⟨k, h4, h5, ?_⟩, fun k hk1 hk2 hk3 => ?_⟩
  · rw [hs k (Nat.le_of_lt h5)]; exact h6
  · rw [hs k (Nat.le_of_lt hk2)] at hk3 ⊢
    exact h7 k hk1 hk2 hk3

structure Pre (l : List UInt8) (L : List Pc) (x : Pc) : Prop where
  few : L.length ≤ 32
  own : ∀ i, i < L.length → ow (pk L i) < i
  ow : ow x < L.length
  fr : 0 ≤ fr x
  ft : Go.Mi.fr x ≤ tt x
  tl : tt x ≤ l.length
  d0 : 0 ≤ de x
  d8 : de x ≤ 8
  par : x.2.1 = []
  fld : x.2.2.1 = []

structure Post (L : List Pc) (x : Pc) (L' : List Pc) : Prop where
  more : L.length < L'.length
  few : L'.length ≤ 32
  pre : ∀ i, i < L.length → pk L' i = pk L i
  fr : fr (pk L' L.length) = fr x
  tt : tt (pk L' L.length) = tt x
  ow : ow (pk L' L.length) = ow x
  de : de (pk L' L.length) = de x
  nu : nu (pk L' L.length) = nu x
  fb : Go.Mi.fr x ≤ bo (pk L' L.length)
  bt : bo (pk L' L.length) ≤ Go.Mi.tt x
  rest : ∀ i, L.length < i → i < L'.length → Fine L' i ∧ (L.length : Int) ≤ Go.Mi.ow (pk L' i)

theorem Post.own {l : List UInt8} {L L' : List Pc} {x : Pc} (hp : Pre l L x) (h : Post L x L') : ∀ i, i < L'.length → Mi.ow (pk L' i) < i := fun i hi => by
  rcases Nat.lt_trichotomy i L.length with hlt | rfl | hgt
  · rw [h.pre i hlt]; exact hp.own i hlt
  · rw [h.ow]; exact hp.ow
  · obtain ⟨k, h4, h5, _⟩ := (h.rest i hgt hi).1.2.2.2.1
    omega

/-- what is kept while the pieces within one are read: they end by m, and are numbered up to n -/
structure Kids (L0 : List Pc) (x : Pc) (L : List Pc) (m n : Int) : Prop where
  more : L0.length < L.length
  few : L.length ≤ 32
  pre : ∀ i, i ≤ L0.length → pk L i = pk (L0 ++ [x]) i
  rest : ∀ i, L0.length < i → i < L.length → Fine L i ∧ (L0.length : Int) ≤ ow (pk L i)
  sib : ∀ k, L0.length < k → k < L.length → ow (pk L k) = (L0.length : Int) → tt (pk L k) ≤ m ∧ nu (pk L k) ≤ n

theorem Kids.own {L0 L : List Pc} {x : Pc} {m n : Int} (h0 : ∀ i, i < L0.length → ow (pk L0 i) < i) (hx : ow x < L0.length) (h : Kids L0 x L m n) : ∀ i, i < L.length → ow (pk L i) < i := fun i hi => by
  rcases Nat.lt_trichotomy i L0.length with hlt | rfl | hgt
  · rw [h.pre i (Nat.le_of_lt hlt), pk_app hlt]; exact h0 i hlt
  · rw [h.pre _ (Nat.le_refl _), pk_new]; exact hx
  · obtain ⟨k, h4, h5, _⟩ := (h.rest i hgt hi).1.2.2.2.1
    omega

/-- one more piece within -/
theorem Kids.step {l : List UInt8} {L0 L L' : List Pc} {x y : Pc} {m n : Int} (h0 : ∀ i, i < L0.length → ow (pk L0 i) < i) (hx : ow x < L0.length) (hd : 0 ≤ de x) (hd8 : de x < 8) (h : Kids L0 x L m n)
    (hp : Pre l L y) (hpo : Post L y L') (h1 : m ≤ fr y) (h2 : bo x ≤ fr y) (h3 : tt y ≤ tt x) (h4 : ow y = (L0.length : Int)) (h5 : de y = de x + 1) (h6 : nu y = n + 1) : Kids L0 x L' (tt y) (n + 1) := by
  have hxk : pk L L0.length = x := by rw [h.pre _ (Nat.le_refl _), pk_new]
  have hsame : ∀ i, i < L.length → pk L' i = pk L i := hpo.pre
  have hmore := h.more
  have hmore' := hpo.more
  have hft := hp.ft
  refine ⟨by omega, hpo.few, fun i hi => by rw [hsame i (by omega)]; exact h.pre i hi, fun i hi1 hi2 => ?_, fun k hk1 hk2 hk3 => ?_⟩
  · rcases Nat.lt_trichotomy i L.length with hlt | rfl | hgt
    · obtain ⟨g1, g2⟩ := h.rest i hi1 hlt
      exact ⟨g1.same fun j hj => hsame j (by omega), by rw [hsame i hlt]; exact g2⟩
    · refine ⟨⟨by rw [hpo.fr]; exact hp.fr, by rw [hpo.fr]; exact hpo.fb, by rw [hpo.tt]; exact hpo.bt, ⟨L0.length, by rw [hpo.ow]; exact h4, hmore, ?_⟩, fun k hk1 hk2 hk3 => ?_⟩, by rw [hpo.ow, h4]; exact Int.le_refl _⟩
      · rw [hsame _ hmore, hxk, hpo.fr, hpo.tt, hpo.de]
        exact ⟨h2, h3, h5, hd, by omega⟩
      · rw [hpo.ow, h4, hsame k hk2] at hk3
        rw [hsame k hk2, hpo.fr, hpo.nu]
        by_cases hk : L0.length < k
        · obtain ⟨s1, s2⟩ := h.sib k hk hk2 hk3
          omega
        · have := h.own h0 hx k hk2
          omega
    · obtain ⟨g1, g2⟩ := hpo.rest i hgt hi2
      exact ⟨g1, by omega⟩
  · rcases Nat.lt_trichotomy k L.length with hlt | rfl | hgt
    · rw [hsame k hlt] at hk3 ⊢
      obtain ⟨s1, s2⟩ := h.sib k hk1 hlt hk3
      omega
    · rw [hpo.tt, hpo.nu]
      omega
    · obtain ⟨g1, g2⟩ := hpo.rest k hgt hk2
      omega

/-- a piece with those within it -/
theorem Kids.post {L0 L : List Pc} {x x' : Pc} {m n : Int} (h : Kids L0 x' L m n) (h1 : fr x' = fr x) (h2 : tt x' = tt x) (h3 : ow x' = ow x) (h4 : de x' = de x) (h5 : nu x' = nu x) (h6 : fr x ≤ bo x') (h7 : bo x' ≤ tt x) : Post L0 x L := by
  have hxk : pk L L0.length = x' := by rw [h.pre _ (Nat.le_refl _), pk_new]
  exact ⟨h.more, h.few, fun i hi => by rw [h.pre i (Nat.le_of_lt hi), pk_app hi], by rw [hxk]; exact h1, by rw [hxk]; exact h2, by rw [hxk]; exact h3, by rw [hxk]; exact h4, by rw [hxk]; exact h5, by rw [hxk]; exact h6, by rw [hxk]; exact h7, h.rest⟩

theorem Kids.first {L0 : List Pc} (x : Pc) (h : L0.length < 32) (m n : Int) : Kids L0 x (L0 ++ [x]) m n :=
  ⟨by simp, by simp; omega, fun _ _ => rfl, fun i h1 h2 => by simp at h2; omega, fun k h1 h2 => by simp at h2; omega⟩

end Go.Mi

namespace Go.Mi
open Go Go.Ev
set_option maxRecDepth 100000

abbrev A14 := (Unit × Pc × Unit) × ((List UInt8 × Unit × Unit) × List Pc × Unit)
abbrev R14' := (Unit ⊕ Unit) × ((List UInt8 × Unit × Unit) × List Pc × Unit)
def arg14 (l : List UInt8) (L : List Pc) (x : Pc) : A14 := (((), (x, ())), ((l, (), ()), (L, ())))

def Good14 (l : List UInt8) (L : List Pc) (x : Pc) (r : R14') : Prop :=
  (∃ L', r = (.inr (), ((l, (), ()), (L', ())))) ∨ ∃ L', r = (.inl (), ((l, (), ()), (L', ()))) ∧ Post L x L'

/-- pieces below one are read well -/
def Below14 (G : A14 → Option R14') (l : List UInt8) (d : Int) : Prop :=
  ∀ L y, Pre l L y → de y = d → ∃ r, G (arg14 l L y) = some r ∧ Good14 l L y r

theorem L14_ok (G : A14 → Option R14') (l : List UInt8) (hl : l.length ≤ 1900000) (L0 : List Pc) (x : Pc) (h0 : ∀ i, i < L0.length → ow (pk L0 i) < i) (h32 : L0.length < 32) (hx : ow x < L0.length) (hd : 0 ≤ de x) (hd8 : de x < 8) (hb : 0 ≤ bo x) (hbt : bo x ≤ tt x) (htl : tt x ≤ l.length)
    (hG : Below14 G l (de x + 1)) (cs : LP) (hcs : Chain (tt x - bo x) cs) (hcl : cs.length ≤ 2000000) :
    ∃ r, L14_0 G (((), (), (L0.length : Int), (), (cs.length : Int), (0 : Int), ()), ((l, (), ()), L0 ++ [x], x, cs, ())) = some r ∧
      ((∃ L m n, r = .inl (((), ()), ((l, (), ()), L, ())) ∧ Kids L0 x L m n) ∨ ∃ L, r = .inr (((), ()), ((l, (), ()), L, ()))) := by
  have h := loop_ind (f := B14_0 G)
    (I := fun p => ∃ (i : Nat) (L : List Pc) (m : Int), p = (((), (), (L0.length : Int), (), (cs.length : Int), (i : Int), ()), ((l, (), ()), L, x, cs, ())) ∧ i ≤ cs.length ∧ Kids L0 x L m i ∧ ∀ j (hj : j < cs.length), i ≤ j → m ≤ bo x + (cs[j]'hj).1)
    (μ := fun p => cs.length - p.1.2.2.2.2.2.1.toNat)
    (Q := fun r => (∃ L m n, r = .inl (((), ()), ((l, (), ()), L, ())) ∧ Kids L0 x L m n) ∨ ∃ L, r = .inr (((), ()), ((l, (), ()), L, ())))
    (step := fun p hp => by
      obtain ⟨i, L, m, rfl, g1, g2, g3⟩ := hp
      by_cases hlt : i < cs.length
      · have hw := w64_nat (show i < 9223372036854775807 by omega)
        obtain ⟨ca, cb, u, hc⟩ : ∃ ca cb u, cs[i] = (ca, cb, u) := ⟨_, _, _, rfl⟩
        have hgd : List.getD cs i ((0:Int), ((0:Int), ())) = (ca, cb, u) := by
          rw [List.getD_eq_getElem?_getD, List.getElem?_eq_getElem hlt, hc]; rfl
        have hin := hcs.1 (cs[i]) (List.getElem_mem _)
        rw [hc] at hin
        simp only at hin
        have hm := g3 i hlt (Nat.le_refl _)
        rw [hc] at hm
        simp only at hm
        have w1 : w64 (bo x + ca) = bo x + ca := w64_id (by omega) (by omega)
        have w2 : w64 (bo x + cb) = bo x + cb := w64_id (by omega) (by omega)
        have w3 : w64 (de x + 1) = de x + 1 := w64_id (by omega) (by omega)
        let y : Pc := ([], [], [], bo x + ca, 0, bo x + cb, (L0.length : Int), de x + 1, ((i + 1 : Nat) : Int), ())
        have hpre : Pre l L y := ⟨g2.few, g2.own h0 hx, by show (L0.length : Int) < L.length; have := g2.more; omega, by show 0 ≤ bo x + ca; omega, by show bo x + ca ≤ bo x + cb; omega, by show bo x + cb ≤ l.length; omega, by show 0 ≤ de x + 1; omega, by show de x + 1 ≤ 8; omega, rfl, rfl⟩
        obtain ⟨r, q1, q2⟩ := hG L y hpre rfl
        have q1' : G (((), (([], [], [], bo x + ca, (0 : Int), bo x + cb, (L0.length : Int), de x + 1, ((i + 1 : Nat) : Int), ()), ())), ((l, (), ()), (L, ()))) = some r := q1
        rcases q2 with ⟨L', rfl⟩ | ⟨L', rfl, q3⟩
        · refine .inr ⟨.inr (((), ()), ((l, (), ()), L', ())), ?_, .inr ⟨L', rfl⟩⟩
          obtain ⟨k, pa, f, a, b, t, o, d, n, u2⟩ := x
          simp only [bo, de] at w1 w2 w3 q1'
          simp only [B14_0, nat_lt, nat_nn, hlt, decide_true, Bool.and_self, cond_true, Int.toNat_natCast, hgd, Option.bind_some, w1, w2, w3, hw, q1']
        · have hk := g2.step h0 hx hd hd8 hpre q3 (by show m ≤ bo x + ca; exact hm) (by show bo x ≤ bo x + ca; omega) (by show bo x + cb ≤ tt x; omega) rfl rfl (by show ((i + 1 : Nat) : Int) = (i : Int) + 1; omega)
          refine .inl ⟨_, ?_, ⟨i + 1, L', bo x + cb, rfl, hlt, by exact_mod_cast hk, fun j hj hij => ?_⟩, ?_⟩
          · obtain ⟨k, pa, f, a, b, t, o, d, n, u2⟩ := x
            simp only [bo, de] at w1 w2 w3 q1'
            simp only [B14_0, nat_lt, nat_nn, hlt, decide_true, Bool.and_self, cond_true, Int.toNat_natCast, hgd, Option.bind_some, w1, w2, w3, hw, q1']
          · have := List.pairwise_iff_getElem.1 hcs.2 i j hlt hj (by omega)
            rw [hc] at this
            simp only at this
            omega
          · show cs.length - ((i + 1 : Nat) : Int).toNat < cs.length - (i : Int).toNat
            omega
      · refine .inr ⟨.inl (((), ()), ((l, (), ()), L, ())), ?_, .inl ⟨L, m, i, rfl, g2⟩⟩
        simp only [B14_0, nat_lt, hlt, decide_false, cond_false])
    (p := (((), (), (L0.length : Int), (), (cs.length : Int), (0 : Int), ()), ((l, (), ()), L0 ++ [x], x, cs, ())))
    ⟨0, L0 ++ [x], bo x, rfl, Nat.zero_le _, Kids.first x h32 _ _, fun j hj _ => by have := (hcs.1 _ (List.getElem_mem hj)).1; omega⟩ (by
      have := FUEL_big
      show cs.length - (0 : Int).toNat < FUEL
      omega)
  exact h

end Go.Mi

namespace Go.Mi
open Go Go.Ev
set_option maxRecDepth 100000

noncomputable def tl7 (G : A14 → Option R14') (p7 : ((Unit × Unit × Unit) × ((List UInt8 × Unit × Unit) × List Pc × Pc × Unit))) : Option R14' := (Option.bind (cond (bytesOK ((List.length p7.2.2.1) + (List.length ([(p7.2.2.2.1.1, (p7.2.2.2.1.2.1, (p7.2.2.2.1.2.2.1, (p7.2.2.2.1.2.2.2.1, (p7.2.2.2.1.2.2.2.2.1, (p7.2.2.2.1.2.2.2.2.2.1, (p7.2.2.2.1.2.2.2.2.2.2.1, (p7.2.2.2.1.2.2.2.2.2.2.2.1, (p7.2.2.2.1.2.2.2.2.2.2.2.2.1, ())))))))))]:List ((List UInt8) × ((List ((List UInt8) × ((List UInt8) × Unit))) × ((List ((List UInt8) × ((List UInt8) × (Int × Unit)))) × (Int × (Int × (Int × (Int × (Int × (Int × Unit)))))))))))) 112) (some (((), (), (((List.length p7.2.2.1) : Nat) : Int), ()), ((p7.2.1.1, (), ()), (p7.2.2.1 ++ ([(p7.2.2.2.1.1, (p7.2.2.2.1.2.1, (p7.2.2.2.1.2.2.1, (p7.2.2.2.1.2.2.2.1, (p7.2.2.2.1.2.2.2.2.1, (p7.2.2.2.1.2.2.2.2.2.1, (p7.2.2.2.1.2.2.2.2.2.2.1, (p7.2.2.2.1.2.2.2.2.2.2.2.1, (p7.2.2.2.1.2.2.2.2.2.2.2.2.1, ())))))))))]:List ((List UInt8) × ((List ((List UInt8) × ((List UInt8) × Unit))) × ((List ((List UInt8) × ((List UInt8) × (Int × Unit)))) × (Int × (Int × (Int × (Int × (Int × (Int × Unit))))))))))), (p7.2.2.2.1.1, p7.2.2.2.1.2.1, p7.2.2.2.1.2.2.1, p7.2.2.2.1.2.2.2.1, p7.2.2.2.1.2.2.2.2.1, p7.2.2.2.1.2.2.2.2.2.1, p7.2.2.2.1.2.2.2.2.2.2.1, p7.2.2.2.1.2.2.2.2.2.2.2.1, p7.2.2.2.1.2.2.2.2.2.2.2.2.1, ()), ()))) none) fun (p8 : ((Unit × Unit × Int × Unit) × (((List UInt8) × Unit × Unit) × (List ((List UInt8) × ((List ((List UInt8) × ((List UInt8) × Unit))) × ((List ((List UInt8) × ((List UInt8) × (Int × Unit)))) × (Int × (Int × (Int × (Int × (Int × (Int × Unit)))))))))) × ((List UInt8) × (List ((List UInt8) × ((List UInt8) × Unit))) × (List ((List UInt8) × ((List UInt8) × (Int × Unit)))) × Int × Int × Int × Int × Int × Int × Unit) × Unit))) => (Option.bind (some (((), (), p8.1.2.2.1, (decide (p8.2.2.2.1.2.2.2.2.2.2.2.1 = (8:Int))), ()), ((p8.2.1.1, (), ()), p8.2.2.1, (p8.2.2.2.1.1, p8.2.2.2.1.2.1, p8.2.2.2.1.2.2.1, p8.2.2.2.1.2.2.2.1, p8.2.2.2.1.2.2.2.2.1, p8.2.2.2.1.2.2.2.2.2.1, p8.2.2.2.1.2.2.2.2.2.2.1, p8.2.2.2.1.2.2.2.2.2.2.2.1, p8.2.2.2.1.2.2.2.2.2.2.2.2.1, ()), ()))) fun p9 => (cond p9.1.2.2.2.1 (some ((Sum.inl ()), ((p9.2.1.1, (), ()), p9.2.2.1, ()))) (Option.bind (Option.bind (some (((), (), p9.1.2.2.1, (decide (p9.2.2.2.1.1 = ([109, 101, 115, 115, 97, 103, 101, 47, 114, 102, 99, 56, 50, 50]:List UInt8))), ()), ((p9.2.1.1, (), ()), p9.2.2.1, (p9.2.2.2.1.1, p9.2.2.2.1.2.1, p9.2.2.2.1.2.2.1, p9.2.2.2.1.2.2.2.1, p9.2.2.2.1.2.2.2.2.1, p9.2.2.2.1.2.2.2.2.2.1, p9.2.2.2.1.2.2.2.2.2.2.1, p9.2.2.2.1.2.2.2.2.2.2.2.1, p9.2.2.2.1.2.2.2.2.2.2.2.2.1, ()), ()))) fun p10 => (cond p10.1.2.2.2.1 (Option.bind (G (((), (([]:List UInt8), ([]:List ((List UInt8) × ((List UInt8) × Unit))), ([]:List ((List UInt8) × ((List UInt8) × (Int × Unit)))), p10.2.2.2.1.2.2.2.2.1, (0:Int), p10.2.2.2.1.2.2.2.2.2.1, p10.1.2.2.1, (w64 (p10.2.2.2.1.2.2.2.2.2.2.2.1 + (1:Int))), (1:Int), ()), ()), ((p10.2.1.1, (), ()), p10.2.2.1, ()))) fun r11 => (match r11.1 with | Sum.inl r11a => (some (Sum.inl (((), (), p10.1.2.2.1, ()), ((r11.2.1.1, (), ()), r11.2.2.1, (p10.2.2.2.1.1, p10.2.2.2.1.2.1, p10.2.2.2.1.2.2.1, p10.2.2.2.1.2.2.2.1, p10.2.2.2.1.2.2.2.2.1, p10.2.2.2.1.2.2.2.2.2.1, p10.2.2.2.1.2.2.2.2.2.2.1, p10.2.2.2.1.2.2.2.2.2.2.2.1, p10.2.2.2.1.2.2.2.2.2.2.2.2.1, ()), ())))) | Sum.inr r11b => (some (Sum.inr (((), ()), ((r11.2.1.1, (), ()), r11.2.2.1, ())))))) (some (Sum.inl (((), (), p10.1.2.2.1, ()), ((p10.2.1.1, (), ()), p10.2.2.1, (p10.2.2.2.1.1, p10.2.2.2.1.2.1, p10.2.2.2.1.2.2.1, p10.2.2.2.1.2.2.2.1, p10.2.2.2.1.2.2.2.2.1, p10.2.2.2.1.2.2.2.2.2.1, p10.2.2.2.1.2.2.2.2.2.2.1, p10.2.2.2.1.2.2.2.2.2.2.2.1, p10.2.2.2.1.2.2.2.2.2.2.2.2.1, ()), ())))))) fun p12 => (match p12 with | Sum.inl p13 => (Option.bind (F31 (((p13.2.2.2.1.1, p13.2.2.2.1.2.1, p13.2.2.2.1.2.2.1, p13.2.2.2.1.2.2.2.1, p13.2.2.2.1.2.2.2.2.1, p13.2.2.2.1.2.2.2.2.2.1, p13.2.2.2.1.2.2.2.2.2.2.1, p13.2.2.2.1.2.2.2.2.2.2.2.1, p13.2.2.2.1.2.2.2.2.2.2.2.2.1, ()), ()), ())) fun r14 => (cond (!(decide (r14.1 = ([]:List UInt8)))) (cond (((decide ((0:Int) ≤ p13.2.2.2.1.2.2.2.2.1)) && (decide (p13.2.2.2.1.2.2.2.2.1 ≤ p13.2.2.2.1.2.2.2.2.2.1))) && (decide (p13.2.2.2.1.2.2.2.2.2.1 ≤ (((List.length p13.2.1.1) : Nat) : Int)))) (Option.bind (F32 (((List.take ((Int.toNat p13.2.2.2.1.2.2.2.2.2.1) - (Int.toNat p13.2.2.2.1.2.2.2.2.1)) (List.drop (Int.toNat p13.2.2.2.1.2.2.2.2.1) p13.2.1.1)), r14.1, ()), ())) fun r15 => (Option.bind (L14_0 G (((), (), p13.1.2.2.1, (), (((List.length r15.2.1) : Nat) : Int), (0:Int), ()), ((p13.2.1.1, (), ()), p13.2.2.1, (p13.2.2.2.1.1, p13.2.2.2.1.2.1, p13.2.2.2.1.2.2.1, p13.2.2.2.1.2.2.2.1, p13.2.2.2.1.2.2.2.2.1, p13.2.2.2.1.2.2.2.2.2.1, p13.2.2.2.1.2.2.2.2.2.2.1, p13.2.2.2.1.2.2.2.2.2.2.2.1, p13.2.2.2.1.2.2.2.2.2.2.2.2.1, ()), r15.2.1, ()))) fun p18 => (match p18 with | Sum.inl p19 => (some ((Sum.inl ()), ((p19.2.1.1, (), ()), p19.2.2.1, ()))) | Sum.inr q19 => (some ((Sum.inr ()), ((q19.2.1.1, (), ()), q19.2.2.1, ())))))) none) (some ((Sum.inl ()), ((p13.2.1.1, (), ()), p13.2.2.1, ()))))) | Sum.inr q13 => (some ((Sum.inr ()), ((q13.2.1.1, (), ()), q13.2.2.1, ()))))))))

noncomputable def tl4 (G : A14 → Option R14') (p4 : ((Unit × Unit × Unit) × ((List UInt8 × Unit × Unit) × List Pc × (Unit × Par × List Fld × Int × Int × Int × Int × Int × Int × Unit) × Unit))) : Option R14' := (Option.bind (Option.bind (F30 ((p4.2.2.2.1.2.2.1, ([99, 111, 110, 116, 101, 110, 116, 45, 116, 121, 112, 101]:List UInt8), ()), ())) fun r5 => (cond r5.1.2.1 (Option.bind (F10 ((r5.1.1, ()), ())) fun r6 => (cond (decide (r6.1.2.2.1 = (0:Int))) (some (((), (), ()), ((p4.2.1.1, (), ()), p4.2.2.1, (r6.1.1, r6.2.1, p4.2.2.2.1.2.2.1, p4.2.2.2.1.2.2.2.1, p4.2.2.2.1.2.2.2.2.1, p4.2.2.2.1.2.2.2.2.2.1, p4.2.2.2.1.2.2.2.2.2.2.1, p4.2.2.2.1.2.2.2.2.2.2.2.1, p4.2.2.2.1.2.2.2.2.2.2.2.2.1, ()), ()))) (some (((), (), ()), ((p4.2.1.1, (), ()), p4.2.2.1, (([116, 101, 120, 116, 47, 112, 108, 97, 105, 110]:List UInt8), p4.2.2.2.1.2.1, p4.2.2.2.1.2.2.1, p4.2.2.2.1.2.2.2.1, p4.2.2.2.1.2.2.2.2.1, p4.2.2.2.1.2.2.2.2.2.1, p4.2.2.2.1.2.2.2.2.2.2.1, p4.2.2.2.1.2.2.2.2.2.2.2.1, p4.2.2.2.1.2.2.2.2.2.2.2.2.1, ()), ()))))) (some (((), (), ()), ((p4.2.1.1, (), ()), p4.2.2.1, (([116, 101, 120, 116, 47, 112, 108, 97, 105, 110]:List UInt8), p4.2.2.2.1.2.1, p4.2.2.2.1.2.2.1, p4.2.2.2.1.2.2.2.1, p4.2.2.2.1.2.2.2.2.1, p4.2.2.2.1.2.2.2.2.2.1, p4.2.2.2.1.2.2.2.2.2.2.1, p4.2.2.2.1.2.2.2.2.2.2.2.1, p4.2.2.2.1.2.2.2.2.2.2.2.2.1, ()), ()))))) fun p7 => tl7 G p7)

theorem F14s_eq (G : A14 → Option R14') (p : A14) : F14s G p = (Option.bind (cond (decide ((((List.length p.2.2.1) : Nat) : Int) = (32:Int))) (some (Sum.inr (((), ()), ((p.2.1.1, (), ()), p.2.2.1, ())))) (some (Sum.inl (((), (), ()), ((p.2.1.1, (), ()), p.2.2.1, (p.1.2.1.1, p.1.2.1.2.1, p.1.2.1.2.2.1, p.1.2.1.2.2.2.1, p.1.2.1.2.2.2.2.1, p.1.2.1.2.2.2.2.2.1, p.1.2.1.2.2.2.2.2.2.1, p.1.2.1.2.2.2.2.2.2.2.1, p.1.2.1.2.2.2.2.2.2.2.2.1, ()), ()))))) fun p1 => (match p1 with | Sum.inl p2 => (Option.bind (cond (((decide ((0:Int) ≤ p2.2.2.2.1.2.2.2.1)) && (decide (p2.2.2.2.1.2.2.2.1 ≤ p2.2.2.2.1.2.2.2.2.2.1))) && (decide (p2.2.2.2.1.2.2.2.2.2.1 ≤ (((List.length p2.2.1.1) : Nat) : Int)))) (Option.bind (F29 (((List.take ((Int.toNat p2.2.2.2.1.2.2.2.2.2.1) - (Int.toNat p2.2.2.2.1.2.2.2.1)) (List.drop (Int.toNat p2.2.2.2.1.2.2.2.1) p2.2.1.1)), ()), ())) fun r3 => (cond (decide (r3.1.2.2.1 = (0:Int))) (some (((), (), ()), ((p2.2.1.1, (), ()), p2.2.2.1, ((), p2.2.2.2.1.2.1, r3.2.1, p2.2.2.2.1.2.2.2.1, (w64 (p2.2.2.2.1.2.2.2.1 + r3.1.2.1)), p2.2.2.2.1.2.2.2.2.2.1, p2.2.2.2.1.2.2.2.2.2.2.1, p2.2.2.2.1.2.2.2.2.2.2.2.1, p2.2.2.2.1.2.2.2.2.2.2.2.2.1, ()), ()))) (some (((), (), ()), ((p2.2.1.1, (), ()), p2.2.2.1, ((), p2.2.2.2.1.2.1, p2.2.2.2.1.2.2.1, p2.2.2.2.1.2.2.2.1, p2.2.2.2.1.2.2.2.1, p2.2.2.2.1.2.2.2.2.2.1, p2.2.2.2.1.2.2.2.2.2.2.1, p2.2.2.2.1.2.2.2.2.2.2.2.1, p2.2.2.2.1.2.2.2.2.2.2.2.2.1, ()), ()))))) none) fun p4 => tl4 G p4) | Sum.inr q2 => (some ((Sum.inr ()), ((q2.2.1.1, (), ()), q2.2.2.1, ()))))) := rfl

end Go.Mi

namespace Go.Mi
open Go Go.Ev
set_option maxRecDepth 100000

theorem sub_len (l : List UInt8) (a b : Int) (h0 : 0 ≤ a) (h1 : a ≤ b) (h2 : b ≤ l.length) : ((List.take (b.toNat - a.toNat) (List.drop a.toNat l)).length : Int) = b - a := by
  rw [List.length_take, List.length_drop]
  omega

theorem tl7_ok (G : A14 → Option R14') (l : List UInt8) (hl : l.length ≤ 1100000) (L0 : List Pc) (x : Pc) (h0 : ∀ i, i < L0.length → ow (pk L0 i) < i) (h32 : L0.length < 32) (hx : ow x < L0.length) (hd0 : 0 ≤ de x) (hd8 : de x ≤ 8)
    (hfr : 0 ≤ bo x) (hbt : bo x ≤ tt x) (htl : tt x ≤ l.length) (hP : x.2.1.length ≤ 2000000) (hPx : ∀ z ∈ x.2.1, z.2.1.length ≤ 8000000) (hG : de x < 8 → Below14 G l (de x + 1)) :
    ∃ r, tl7 G (((), (), ()), ((l, (), ()), L0, x, ())) = some r ∧ ((∃ L', r = (.inr (), ((l, (), ()), (L', ())))) ∨ ∃ L', r = (.inl (), ((l, (), ()), (L', ()))) ∧ ∃ m n, Kids L0 x L' m n) := by
  have e1 : bytesOK (L0.length + (0 + 1)) 112 = true := decide_eq_true (by omega)
  have hfst := Kids.first x h32 (bo x) 0
  have hown := hfst.own h0 hx
  obtain ⟨bb, f1, f2, f3⟩ := F31_ok x hP hPx
  have hlen : (L0 ++ [x]).length = L0.length + 1 := by simp
  by_cases h8 : de x = 8
  · refine ⟨(.inl (), ((l, (), ()), (L0 ++ [x], ()))), ?_, .inr ⟨_, rfl, _, _, hfst⟩⟩
    obtain ⟨k, pa, f, a, b, t, o, d, n, u⟩ := x
    have h8' : d = 8 := h8
    unfold tl7
    simp only [List.length_cons, List.length_nil, e1, cond_true, Option.bind_some, h8', decide_true]
  · have hlt : de x < 8 := by omega
    have hB := hG hlt
    have w3 : w64 (de x + 1) = de x + 1 := w64_id (by omega) (by omega)
    by_cases hk : x.1 = [109, 101, 115, 115, 97, 103, 101, 47, 114, 102, 99, 56, 50, 50]
    · have hbb : bb = [] := f3 (by rw [hk]; decide)
      subst hbb
      let y : Pc := ([], [], [], bo x, 0, tt x, (L0.length : Int), de x + 1, 1, ())
      have hpre : Pre l (L0 ++ [x]) y := ⟨by omega, hown, by show (L0.length : Int) < (L0 ++ [x]).length; omega, hfr, hbt, htl, by show 0 ≤ de x + 1; omega, by show de x + 1 ≤ 8; omega, rfl, rfl⟩
      obtain ⟨r, q1, q2⟩ := hB (L0 ++ [x]) y hpre rfl
      have q1' : G (((), (([], [], [], bo x, (0 : Int), tt x, (L0.length : Int), de x + 1, (1 : Int), ()), ())), ((l, (), ()), (L0 ++ [x], ()))) = some r := q1
      rcases q2 with ⟨L', rfl⟩ | ⟨L', rfl, q3⟩
      · refine ⟨(.inr (), ((l, (), ()), (L', ()))), ?_, .inl ⟨L', rfl⟩⟩
        obtain ⟨k, pa, f, a, b, t, o, d, n, u⟩ := x
        simp only [bo, tt, de] at w3 q1' h8 hk
        unfold tl7
        simp only [List.length_cons, List.length_nil, e1, cond_true, cond_false, Option.bind_some, decide_eq_false h8, decide_eq_true hk, w3, q1']
      · have hs := hfst.step h0 hx hd0 hlt hpre q3 (Int.le_refl _) (Int.le_refl _) (Int.le_refl _) rfl rfl rfl
        refine ⟨(.inl (), ((l, (), ()), (L', ()))), ?_, .inr ⟨L', rfl, _, _, hs⟩⟩
        obtain ⟨k, pa, f, a, b, t, o, d, n, u⟩ := x
        simp only [bo, tt, de] at w3 q1' h8 hk
        unfold tl7
        simp only [List.length_cons, List.length_nil, e1, cond_true, cond_false, Option.bind_some, decide_eq_false h8, decide_eq_true hk, w3, q1', f1, decide_true, Bool.not_true]
    · by_cases hbb : bb = []
      · subst hbb
        refine ⟨(.inl (), ((l, (), ()), (L0 ++ [x], ()))), ?_, .inr ⟨_, rfl, _, _, hfst⟩⟩
        obtain ⟨k, pa, f, a, b, t, o, d, n, u⟩ := x
        simp only [de] at h8 hk
        unfold tl7
        simp only [List.length_cons, List.length_nil, e1, cond_true, cond_false, Option.bind_some, decide_eq_false h8, decide_eq_false hk, f1, decide_true, Bool.not_true]
      · have hsl := sub_len l (bo x) (tt x) hfr hbt htl
        obtain ⟨cs, c1, c2, c3⟩ := cut_ok (List.take ((tt x).toNat - (bo x).toNat) (List.drop (bo x).toNat l)) bb (by omega) (by omega)
        rw [hsl] at c2
        obtain ⟨r, q1, q2⟩ := L14_ok G l (by omega) L0 x h0 h32 hx hd0 hlt hfr hbt htl hB cs c2 (by omega)
        rcases q2 with ⟨L', m, n', rfl, q3⟩ | ⟨L', rfl⟩
        · refine ⟨(.inl (), ((l, (), ()), (L', ()))), ?_, .inr ⟨L', rfl, m, n', q3⟩⟩
          obtain ⟨k, pa, f, a, b, t, o, d, n, u⟩ := x
          have k1 : decide ((0 : Int) ≤ b) = true := decide_eq_true hfr
          have k2 : decide (b ≤ t) = true := decide_eq_true hbt
          have k3 : decide (t ≤ (l.length : Int)) = true := decide_eq_true htl
          simp only [bo, tt, de] at h8 hk c1
          unfold tl7
          simp only [List.length_cons, List.length_nil, e1, cond_true, cond_false, Option.bind_some, decide_eq_false h8, decide_eq_false hk, f1, decide_eq_false hbb, Bool.not_false, k1, k2, k3, Bool.and_self, c1, q1]
        · refine ⟨(.inr (), ((l, (), ()), (L', ()))), ?_, .inl ⟨L', rfl⟩⟩
          obtain ⟨k, pa, f, a, b, t, o, d, n, u⟩ := x
          have k1 : decide ((0 : Int) ≤ b) = true := decide_eq_true hfr
          have k2 : decide (b ≤ t) = true := decide_eq_true hbt
          have k3 : decide (t ≤ (l.length : Int)) = true := decide_eq_true htl
          simp only [bo, tt, de] at h8 hk c1
          unfold tl7
          simp only [List.length_cons, List.length_nil, e1, cond_true, cond_false, Option.bind_some, decide_eq_false h8, decide_eq_false hk, f1, decide_eq_false hbb, Bool.not_false, k1, k2, k3, Bool.and_self, c1, q1]

end Go.Mi
