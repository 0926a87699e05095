/- The pieces within one, in their order. -/
import Derived.Test.YtnhjmcedpcpdoaaDoorMiq4
import Derived.Test.YtnhjmcedpcpdoaaDoorMiq8
import Derived.KernelRfl
import Derived.Lib.TrimAscii
namespace Go.Mi
open Go Go.Ev
set_option maxRecDepth 100000

/-- the places of the pieces within one, up to a place -/
def kx (n : Nat) (L : List Pc) (m : Nat) : List Nat := (List.range m).filter fun i => decide (ow (pk L i) = (n : Int))

theorem kx_succ (n : Nat) (L : List Pc) (m : Nat) : kx n L (m + 1) = kx n L m ++ if ow (pk L m) = (n : Int) then [m] else [] := by
  unfold kx
  rw [List.range_succ, List.filter_append]
  congr 1
  by_cases h : ow (pk L m) = (n : Int) <;> simp [h]

theorem kx_same {n : Nat} {L L' : List Pc} : ∀ m : Nat, (∀ i, i < m → pk L' i = pk L i) → kx n L' m = kx n L m
  | 0, _ => rfl
  | m + 1, h => by rw [kx_succ, kx_succ, h m (Nat.lt_succ_self m), kx_same m fun i hi => h i (Nat.lt_succ_of_lt hi)]

theorem kx_none {n : Nat} {L : List Pc} : ∀ m : Nat, (∀ i, i < m → ow (pk L i) ≠ (n : Int)) → kx n L m = []
  | 0, _ => rfl
  | m + 1, h => by rw [kx_succ, kx_none m fun i hi => h i (Nat.lt_succ_of_lt hi), if_neg (h m (Nat.lt_succ_self m))]; rfl

theorem kx_lt {n : Nat} {L : List Pc} {m i : Nat} (h : i ∈ kx n L m) : i < m := by
  unfold kx at h
  rw [List.mem_filter, List.mem_range] at h
  exact h.1

theorem kx_step {n : Nat} {L L' : List Pc} {y : Pc} (hpo : Post L y L') (hy : ow y = (n : Int)) (hn : n < L.length) : kx n L' L'.length = kx n L L.length ++ [L.length] := by
  have h : ∀ m : Nat, L.length + 1 + m ≤ L'.length → kx n L' (L.length + 1 + m) = kx n L L.length ++ [L.length] := fun m => by
    induction m with
    | zero =>
      intro _
      rw [Nat.add_zero, kx_succ, kx_same L.length hpo.pre, hpo.ow, if_pos hy]
    | succ m ih =>
      intro hm
      have := (hpo.rest (L.length + 1 + m) (by omega) (by omega)).2
      rw [← Nat.add_assoc, kx_succ, ih (by omega), if_neg (by omega), List.append_nil]
  have hm := hpo.more
  have := h (L'.length - (L.length + 1)) (by omega)
  rwa [show L.length + 1 + (L'.length - (L.length + 1)) = L'.length by omega] at this

def ends (L : List Pc) (i : Nat) : Int × Int := (fr (pk L i), tt (pk L i))
def at_ (x : Pc) (c : Int × Int × Unit) : Int × Int := (bo x + c.1, bo x + c.2.1)
def Told (L0 : List Pc) (x : Pc) (L : List Pc) (cs : LP) : Prop := (kx L0.length L L.length).map (ends L) = cs.map (at_ x)

theorem L14_kids (G : A14 → Option R14') (l : List UInt8) (hl : l.length ≤ 1900000) (L0 : List Pc) (x : Pc) (h0 : ∀ i, i < L0.length → ow (pk L0 i) < i) (h32 : L0.length < 32) (hx : ow x < L0.length) (hd : 0 ≤ de x) (hd8 : de x < 8) (hb : 0 ≤ bo x) (hbt : bo x ≤ tt x) (htl : tt x ≤ l.length)
    (hG : Below14 G l (de x + 1)) (cs : LP) (hcs : Chain (tt x - bo x) cs) (hcl : cs.length ≤ 2000000) :
    ∃ r, L14_0 G (((), (), (L0.length : Int), (), (cs.length : Int), (0 : Int), ()), ((l, (), ()), L0 ++ [x], x, cs, ())) = some r ∧
      ((∃ L m n, r = .inl (((), ()), ((l, (), ()), L, ())) ∧ Kids L0 x L m n ∧ Told L0 x L cs) ∨ ∃ L, r = .inr (((), ()), ((l, (), ()), L, ()))) := by
  have h := loop_ind (f := B14_0 G)
    (I := fun p => ∃ (i : Nat) (L : List Pc) (m : Int), p = (((), (), (L0.length : Int), (), (cs.length : Int), (i : Int), ()), ((l, (), ()), L, x, cs, ())) ∧ i ≤ cs.length ∧ Kids L0 x L m i ∧ (∀ j (hj : j < cs.length), i ≤ j → m ≤ bo x + (cs[j]'hj).1) ∧ Told L0 x L (cs.take i))
    (μ := fun p => cs.length - p.1.2.2.2.2.2.1.toNat)
    (Q := fun r => (∃ L m n, r = .inl (((), ()), ((l, (), ()), L, ())) ∧ Kids L0 x L m n ∧ Told L0 x L cs) ∨ ∃ L, r = .inr (((), ()), ((l, (), ()), L, ())))
    (step := fun p hp => by
      obtain ⟨i, L, m, rfl, g1, g2, g3, g4⟩ := hp
      by_cases hlt : i < cs.length
      · have hw := w64_nat (show i < 9223372036854775807 by omega)
        obtain ⟨ca, cb, u, hc⟩ : ∃ ca cb u, cs[i] = (ca, cb, u) := ⟨_, _, _, rfl⟩
        have hgd : List.getD cs i ((0:Int), ((0:Int), ())) = (ca, cb, u) := by
          rw [List.getD_eq_getElem?_getD, List.getElem?_eq_getElem hlt, hc]; rfl
        have hin := hcs.1 (cs[i]) (List.getElem_mem _)
        rw [hc] at hin
        simp only at hin
        have hm := g3 i hlt (Nat.le_refl _)
        rw [hc] at hm
        simp only at hm
        have w1 : w64 (bo x + ca) = bo x + ca := w64_id (by omega) (by omega)
        have w2 : w64 (bo x + cb) = bo x + cb := w64_id (by omega) (by omega)
        have w3 : w64 (de x + 1) = de x + 1 := w64_id (by omega) (by omega)
        let y : Pc := ([], [], [], bo x + ca, 0, bo x + cb, (L0.length : Int), de x + 1, ((i + 1 : Nat) : Int), ())
        have hpre : Pre l L y := ⟨g2.few, g2.own h0 hx, by show (L0.length : Int) < L.length; have := g2.more; omega, by show 0 ≤ bo x + ca; omega, by show bo x + ca ≤ bo x + cb; omega, by show bo x + cb ≤ l.length; omega, by show 0 ≤ de x + 1; omega, by show de x + 1 ≤ 8; omega, rfl, rfl⟩
        obtain ⟨r, q1, q2⟩ := hG L y hpre rfl
        have q1' : G (((), (([], [], [], bo x + ca, (0 : Int), bo x + cb, (L0.length : Int), de x + 1, ((i + 1 : Nat) : Int), ()), ())), ((l, (), ()), (L, ()))) = some r := q1
        rcases q2 with ⟨L', rfl⟩ | ⟨L', rfl, q3⟩
        · refine .inr ⟨.inr (((), ()), ((l, (), ()), L', ())), ?_, .inr ⟨L', rfl⟩⟩
          obtain ⟨k, pa, f, a, b, t, o, d, n, u2⟩ := x
          simp only [bo, de] at w1 w2 w3 q1'
          simp only [B14_0, nat_lt, nat_nn, hlt, decide_true, Bool.and_self, cond_true, Int.toNat_natCast, hgd, Option.bind_some, w1, w2, w3, hw, q1']
        · have hk := g2.step h0 hx hd hd8 hpre q3 (by show m ≤ bo x + ca; exact hm) (by show bo x ≤ bo x + ca; omega) (by show bo x + cb ≤ tt x; omega) rfl rfl (by show ((i + 1 : Nat) : Int) = (i : Int) + 1; omega)
          have ht : Told L0 x L' (cs.take (i + 1)) := by
            have hks := kx_step q3 (show ow y = (L0.length : Int) from rfl) g2.more
            have hmap : (kx L0.length L L.length).map (ends L') = (kx L0.length L L.length).map (ends L) := List.map_congr_left fun j hj => by
              unfold ends
              rw [q3.pre j (kx_lt hj)]
            have hend : ends L' L.length = at_ x (ca, cb, u) := by
              unfold ends
              rw [q3.fr, q3.tt]
              rfl
            unfold Told at g4 ⊢
            rw [hks, List.map_append, hmap, g4, List.take_succ_eq_append_getElem hlt, List.map_append, hc, List.map_singleton, List.map_singleton, hend]
          refine .inl ⟨_, ?_, ⟨i + 1, L', bo x + cb, rfl, hlt, by exact_mod_cast hk, fun j hj hij => ?_, ht⟩, ?_⟩
          · obtain ⟨k, pa, f, a, b, t, o, d, n, u2⟩ := x
            simp only [bo, de] at w1 w2 w3 q1'
            simp only [B14_0, nat_lt, nat_nn, hlt, decide_true, Bool.and_self, cond_true, Int.toNat_natCast, hgd, Option.bind_some, w1, w2, w3, hw, q1']
          · have := List.pairwise_iff_getElem.1 hcs.2 i j hlt hj (by omega)
            rw [hc] at this
            simp only at this
            omega
          · show cs.length - ((i + 1 : Nat) : Int).toNat < cs.length - (i : Int).toNat
            omega
      · refine .inr ⟨.inl (((), ()), ((l, (), ()), L, ())), ?_, .inl ⟨L, m, i, rfl, g2, ?_⟩⟩
        · simp only [B14_0, nat_lt, hlt, decide_false, cond_false]
        · rw [List.take_of_length_le (by omega)] at g4
          exact g4)
    (p := (((), (), (L0.length : Int), (), (cs.length : Int), (0 : Int), ()), ((l, (), ()), L0 ++ [x], x, cs, ())))
    ⟨0, L0 ++ [x], bo x, rfl, Nat.zero_le _, Kids.first x h32 _ _, fun j hj _ => by have := (hcs.1 _ (List.getElem_mem hj)).1; omega, by
      unfold Told
      rw [kx_none]
      · rfl
      · intro i hi
        have := (Kids.first x h32 (bo x) 0).own h0 hx i hi
        simp only [List.length_append, List.length_singleton] at hi
        omega⟩ (by
      have := FUEL_big
      show cs.length - (0 : Int).toNat < FUEL
      omega)
  exact h

/-- the kind of many, and its one parameter -/
def kMany : List UInt8 := [109, 117, 108, 116, 105, 112, 97, 114, 116, 47, 109, 105, 120, 101, 100]
def kBound : List UInt8 := [98, 111, 117, 110, 100, 97, 114, 121]

theorem F31_many (b : List UInt8) (hb : Letters b) (h70 : b.length ≤ 70) (p : Pc) (hk : p.1 = kMany) (hp : p.2.1 = [(kBound, (b, ()))]) : F31 ((p, ()), ()) = some (b, ()) := by
  have h1 : Lib.hasPrefix kMany [109, 117, 108, 116, 105, 112, 97, 114, 116, 47] = true := by decide
  have h2 : F48c49 (([(kBound, (b, ()))], (), ()), ()) = some ((0 : Int), ()) := by kernel_rfl
  have h3 : decide (b = ([] : List UInt8)) = false := decide_eq_false hb.1
  have h4 : decide ((70 : Int) < (b.length : Int)) = false := decide_eq_false (by omega)
  have h5 : decide (Lib.trimRightS b [32, 9] = b) = true := decide_eq_true (by rw [rtr_eq]; exact rtr_letters (p := []) hb)
  have h6 : decide (b.length ≤ 9223372036854775807) = true := decide_eq_true (by omega)
  have h7 : decide ((0 : Int) < ((List.length [(kBound, (b, ()))] : Nat) : Int)) = true := rfl
  have h8 : List.getD [(kBound, (b, ()))] (0 : Int).toNat (([]:List UInt8), (([]:List UInt8), ())) = (kBound, (b, ())) := rfl
  have h9 : decide ((0 : Int) < (0 : Int)) = false := rfl
  have h10 : decide ((0 : Int) ≤ (0 : Int)) = true := rfl
  unfold F31
  simp only [hk, hp, h1, Bool.not_true, cond_false, h2, Option.bind_some, h7, h8, h9, h10, cond_true, Bool.and_self, h3, h4, Bool.or_self, Bool.not_false, h6, Bool.and_true, h5]

theorem tl7_many (G : A14 → Option R14') (l : List UInt8) (hl : l.length ≤ 1100000) (b : List UInt8) (hb : Letters b) (h70 : b.length ≤ 70) (x : Pc) (hk : x.1 = kMany) (hp : x.2.1 = [(kBound, (b, ()))]) (hx : ow x < 0) (hd0 : de x = 0)
    (hfr : 0 ≤ bo x) (hbt : bo x ≤ tt x) (htl : tt x ≤ l.length) (hG : Below14 G l (de x + 1)) :
    ∃ r, tl7 G (((), (), ()), ((l, (), ()), [], x, ())) = some r ∧ ((∃ L', r = (.inr (), ((l, (), ()), (L', ())))) ∨ ∃ L', r = (.inl (), ((l, (), ()), (L', ()))) ∧ ∃ m n, Kids [] x L' m n ∧ Told [] x L' (cutw (List.take ((tt x).toNat - (bo x).toNat) (List.drop (bo x).toNat l)) b 0 (-1) [])) := by
  have e1 : bytesOK (0 + (0 + 1)) 112 = true := rfl
  have h8 : ¬ de x = 8 := by omega
  have f1 := F31_many b hb h70 x hk hp
  have hk' : ¬ x.1 = [109, 101, 115, 115, 97, 103, 101, 47, 114, 102, 99, 56, 50, 50] := by rw [hk]; decide
  have hsl := sub_len l (bo x) (tt x) hfr hbt htl
  have c0 := F32_eq (List.take ((tt x).toNat - (bo x).toNat) (List.drop (bo x).toNat l)) b (by omega) (by omega)
  obtain ⟨cs, c1, c2, c3⟩ := cut_ok (List.take ((tt x).toNat - (bo x).toNat) (List.drop (bo x).toNat l)) b (by omega) (by omega)
  have hcs : cs = cutw (List.take ((tt x).toNat - (bo x).toNat) (List.drop (bo x).toNat l)) b 0 (-1) [] := by
    rw [c0] at c1
    simp only [Option.some.injEq, Prod.mk.injEq, and_true, true_and] at c1
    exact c1.symm
  rw [← hcs]
  rw [hsl] at c2
  obtain ⟨r, q1, q2⟩ := L14_kids G l (by omega) [] x (fun i hi => absurd hi (Nat.not_lt_zero i)) (by simp) (by simpa using hx) (by omega) (by omega) hfr hbt htl hG cs c2 (by omega)
  rcases q2 with ⟨L', m, n', rfl, q3, q4⟩ | ⟨L', rfl⟩
  · refine ⟨(.inl (), ((l, (), ()), (L', ()))), ?_, .inr ⟨L', rfl, m, n', q3, q4⟩⟩
    obtain ⟨k, pa, f, a, bb, t, o, d, n, u⟩ := x
    have k1 : decide ((0 : Int) ≤ bb) = true := decide_eq_true hfr
    have k2 : decide (bb ≤ t) = true := decide_eq_true hbt
    have k3 : decide (t ≤ (l.length : Int)) = true := decide_eq_true htl
    simp only [bo, tt, de] at h8 hk' c1
    have q1' : L14_0 G (((), (), (0 : Int), (), (cs.length : Int), (0 : Int), ()), ((l, (), ()), [(k, pa, f, a, bb, t, o, d, n, u)], (k, pa, f, a, bb, t, o, d, n, u), cs, ())) = some (.inl (((), ()), ((l, (), ()), L', ()))) := q1
    have z : ((0 : Nat) : Int) = 0 := rfl
    unfold tl7
    simp only [List.length_cons, List.length_nil, List.nil_append, e1, z, cond_true, cond_false, Option.bind_some, decide_eq_false h8, decide_eq_false hk', f1, decide_eq_false hb.1, Bool.not_false, k1, k2, k3, Bool.and_self, c1, q1']
  · refine ⟨(.inr (), ((l, (), ()), (L', ()))), ?_, .inl ⟨L', rfl⟩⟩
    obtain ⟨k, pa, f, a, bb, t, o, d, n, u⟩ := x
    have k1 : decide ((0 : Int) ≤ bb) = true := decide_eq_true hfr
    have k2 : decide (bb ≤ t) = true := decide_eq_true hbt
    have k3 : decide (t ≤ (l.length : Int)) = true := decide_eq_true htl
    simp only [bo, tt, de] at h8 hk' c1
    have q1' : L14_0 G (((), (), (0 : Int), (), (cs.length : Int), (0 : Int), ()), ((l, (), ()), [(k, pa, f, a, bb, t, o, d, n, u)], (k, pa, f, a, bb, t, o, d, n, u), cs, ())) = some (.inr (((), ()), ((l, (), ()), L', ()))) := q1
    have z : ((0 : Nat) : Int) = 0 := rfl
    unfold tl7
    simp only [List.length_cons, List.length_nil, List.nil_append, e1, z, cond_true, cond_false, Option.bind_some, decide_eq_false h8, decide_eq_false hk', f1, decide_eq_false hb.1, Bool.not_false, k1, k2, k3, Bool.and_self, c1, q1']

end Go.Mi

namespace Go.Mi
open Go Go.Ev
set_option maxRecDepth 100000

theorem take_app {α : Type} (a b : List α) : (a ++ b).take a.length = a := by
  rw [List.take_append]; simp
theorem drop_app {α : Type} (a b : List α) : (a ++ b).drop a.length = b := by
  rw [List.drop_append]; simp
theorem drop_app2 {α : Type} (a b : List α) (n : Nat) : (a ++ b).drop (a.length + n) = b.drop n := by
  rw [List.drop_append, List.drop_eq_nil_of_le (by omega)]; simp

theorem spl_field (k : Nat) (name v r : List UInt8) (p : Nat) (out : List Fld) (h13 : (13 : UInt8) ∉ name ++ 58 :: v) (h58 : fst 58 (name ++ 58 :: v) = some name.length) (hlen : (name ++ 58 :: v).length ≤ 1024) (hrn : rn name = true)
    (hbl : bl ((name ++ 58 :: v).getD 0 0) = false) (h40 : out.length < 40) :
    spl (k + 1) ((name ++ 58 :: v) ++ 13 :: 10 :: r) p out = spl k r (p + ((name ++ 58 :: v).length + 2)) (out ++ [(name, (v, ((p : Int), ())))]) := by
  have e := ln_clean _ r h13
  have hne : (name ++ 58 :: v) ≠ [] := by simp
  rw [spl, if_neg (by simp), e]
  simp only
  rw [if_neg hne, if_neg (by omega), hbl, if_neg (by simp), h58]
  simp only
  rw [take_app, if_pos hrn, if_neg (by omega), drop_app2, drop_app2]
  rfl

theorem spl_end (k : Nat) (r : List UInt8) (p : Nat) (out : List Fld) : spl (k + 1) (13 :: 10 :: r) p out = .inl (out, p + 2) := by
  have e : ln (13 :: 10 :: r) = ([], 2) := by simp [ln]
  rw [spl, if_neg (by simp), e, if_pos rfl]

def nX : List UInt8 := [88]
def nCT : List UInt8 := [67, 111, 110, 116, 101, 110, 116, 45, 84, 121, 112, 101]
/-- the value of the kind -/
def val (b : List UInt8) : List UInt8 := [109, 117, 108, 116, 105, 112, 97, 114, 116, 47, 109, 105, 120, 101, 100, 59, 32, 98, 111, 117, 110, 100, 97, 114, 121, 61, 34] ++ b ++ [34]
def hdC : List UInt8 := [88, 58, 32, 121, 13, 10, 67, 111, 110, 116, 101, 110, 116, 45, 84, 121, 112, 101, 58, 32, 109, 117, 108, 116, 105, 112, 97, 114, 116, 47, 109, 105, 120, 101, 100, 59, 32, 98, 111, 117, 110, 100, 97, 114, 121, 61, 34]
def hdr (b : List UInt8) : List UInt8 := hdC ++ b ++ [34, 13, 10, 13, 10]

theorem hdr_len (b : List UInt8) : (hdr b).length = 52 + b.length := by
  simp [hdr, hdC]; omega

theorem hdr_eq (b body : List UInt8) : hdr b ++ body = (nX ++ 58 :: [32, 121]) ++ 13 :: 10 :: ((nCT ++ 58 :: (32 :: val b)) ++ 13 :: 10 :: (13 :: 10 :: body)) := by
  simp [hdr, hdC, nX, nCT, val]

theorem trm_val (b : List UInt8) : trm (val b) = val b ∧ trm (32 :: val b) = val b := by
  have h1 : ltr (val b) = val b := by unfold ltr val; rfl
  have h2 : ltr (32 :: val b) = val b := by unfold ltr val; rfl
  have h3 : rtr (val b) = val b := by
    unfold val
    exact rtr_id _ 34 rfl
  unfold trm
  rw [h1, h2, h3]
  exact ⟨rfl, rfl⟩

def flds (b : List UInt8) : List Fld := [(nX, ([121], ((0 : Int), ()))), (nCT, (val b, ((6 : Int), ())))]

theorem split_hdr (b body : List UInt8) (hb : Letters b) (h70 : b.length ≤ 70) : split (hdr b ++ body) = (flds b, (((hdr b).length : Nat) : Int), 0, ()) := by
  have hl : (hdr b ++ body).length + 1 = ((hdr b ++ body).length - 2) + 1 + 1 + 1 := by
    rw [List.length_append, hdr_len]; omega
  have h13 := no13 hb
  have hv : (val b).length = 28 + b.length := by simp [val]; omega
  unfold split
  rw [hl, hdr_eq]
  rw [spl_field _ nX [32, 121] _ _ _ (by decide) rfl (by decide) (by decide) (by decide) (by simp)]
  rw [spl_field _ nCT (32 :: val b) _ _ _ (by
    unfold nCT val
    intro h
    simp [h13] at h) rfl (by simp [nCT, hv]; omega) (by decide) rfl (by simp), spl_end]
  simp only [fin, List.nil_append, List.cons_append, List.map_cons, List.map_nil, trf, (trm_val b).2]
  have e1 : trm [32, 121] = [121] := by decide
  rw [e1]
  simp only [Prod.mk.injEq, and_true]
  refine ⟨rfl, ?_⟩
  rw [hdr_len]
  simp only [nX, nCT, List.length_append, List.length_cons, List.length_nil, hv]
  omega

theorem get_hdr (b : List UInt8) (hb : b.length ≤ 70) : F30 ((flds b, ([99, 111, 110, 116, 101, 110, 116, 45, 116, 121, 112, 101]:List UInt8), ()), ()) = some ((val b, true, ()), ()) := by
  have hm : maxLen = 9223372036854775807 := rfl
  have h := F47_eq (flds b) [99, 111, 110, 116, 101, 110, 116, 45, 116, 121, 112, 101] (by simp [flds]) (by rw [hm]; simp) (fun f hf => by
    simp only [flds, List.mem_cons, List.not_mem_nil, or_false] at hf
    rcases hf with rfl | rfl
    · rw [hm]; simp [nX]
    · rw [hm]; simp [nCT])
  have ha : alls (flds b) [99, 111, 110, 116, 101, 110, 116, 45, 116, 121, 112, 101] = [val b] := by
    have q1 : hit [99, 111, 110, 116, 101, 110, 116, 45, 116, 121, 112, 101] (nX, ([121], ((0 : Int), ()))) = false := by decide
    have q2 : ∀ v : List UInt8, hit [99, 111, 110, 116, 101, 110, 116, 45, 116, 121, 112, 101] (nCT, (v, ((6 : Int), ()))) = true := fun v => by
      show hit _ (nCT, (([] : List UInt8), ((6 : Int), ()))) = true
      decide
    simp only [alls, flds, List.filter_cons, q1, q2, Bool.false_eq_true, if_false, if_true, List.filter_nil, List.map_cons, List.map_nil]
  have z1 : decide (((List.length [val b] : Nat) : Int) = 0) = false := rfl
  have z2 : decide ((0 : Int) < ((List.length [val b] : Nat) : Int)) = true := rfl
  unfold F30
  simp only [h, Option.bind_some, ha, z1, z2, cond_true, cond_false, List.getD_cons_zero]

theorem enc_letter : ∀ k : Fin 26, enc (97 + k.val) = [UInt8.ofNat (97 + k.val)] := by decide

theorem enc_eq (c : UInt8) (h1 : 97 ≤ c.toNat) (h2 : c.toNat ≤ 122) : enc c.toNat = [c] := by
  have := enc_letter ⟨c.toNat - 97, by omega⟩
  simp only at this
  rw [show 97 + (c.toNat - 97) = c.toNat by omega] at this
  rw [this, UInt8.ofNat_toNat]

theorem uq_letters : ∀ (t : List UInt8) (k : Nat) (place : Int) (out : List UInt8) (pos : Nat), 0 < place → (∀ c ∈ t, 97 ≤ c.toNat ∧ c.toNat ≤ 122) → t.length + 1 ≤ k → out.length + t.length ≤ 1024 →
    uq k (t ++ [34]) place false out pos = (out ++ t, ((pos + t.length : Nat) : Int) + 1, 0)
  | [], k, place, out, pos, hp, _, hk, ho => by
    obtain ⟨k, rfl⟩ : ∃ j, k = j + 1 := ⟨k - 1, by omega⟩
    have d : Lib.decodeL ([] ++ [34] : List UInt8) = (34, 1) := Lib.decodeL_ascii 34 [] (by decide)
    have p0 : decide (place = 0) = false := decide_eq_false (by omega)
    have p1 : pln 34 1 = true := rfl
    rw [uq, if_neg (by simp), d, p0, p1, if_neg (by decide), if_neg (by omega), if_neg (by decide), if_pos (by decide), if_neg (by simp at ho; omega)]
    simp
  | c :: t, k, place, out, pos, hp, hc, hk, ho => by
    obtain ⟨k, rfl⟩ : ∃ j, k = j + 1 := ⟨k - 1, by omega⟩
    obtain ⟨c1, c2⟩ := hc c (by simp)
    have d : Lib.decodeL (c :: (t ++ [34])) = (c.toNat, 1) := Lib.decodeL_ascii c (t ++ [34]) (by omega)
    have p0 : decide (place = 0) = false := decide_eq_false (by omega)
    have p1 : pln c.toNat 1 = true := by
      unfold pln
      rw [decide_eq_true (show (32 : Int) ≤ (c.toNat : Int) by omega), decide_eq_false (show ¬ (c.toNat : Int) = 127 by omega), decide_eq_false (show ¬ (c.toNat : Int) = 65533 by omega)]
      rfl
    have p2 : decide ((c.toNat : Int) = 34) = false := decide_eq_false (by omega)
    have p3 : decide ((c.toNat : Int) = 92) = false := decide_eq_false (by omega)
    simp only [List.length_cons] at hk ho
    rw [List.cons_append, uq, if_neg (by simp), d]
    simp only
    rw [p0, p1, p2, p3, if_neg (by decide), if_neg (by omega), if_neg (by decide), if_neg (by decide), enc_eq c c1 c2]
    have e : (c :: (t ++ [34])).drop 1 = t ++ [34] := rfl
    rw [e, uq_letters t k (place + 1) (out ++ [c]) (pos + 1) (by omega) (fun x hx => hc x (by simp [hx])) (by omega) (by simp; omega)]
    simp only [List.append_assoc, List.singleton_append, List.length_cons, Prod.mk.injEq, and_true, true_and]
    omega

theorem unq_hdr (b : List UInt8) (hb : Letters b) (h70 : b.length ≤ 70) : unq (34 :: (b ++ [34])) = (b, ((b.length + 2 : Nat) : Int), 0) := by
  have d : Lib.decodeL (34 :: (b ++ [34]) : List UInt8) = (34, 1) := Lib.decodeL_ascii 34 _ (by decide)
  have p1 : pln 34 1 = true := rfl
  unfold unq
  rw [List.length_cons, uq, if_neg (by simp), d, p1, if_neg (by decide), if_pos rfl]
  have e : (34 :: (b ++ [34])).drop 1 = b ++ [34] := rfl
  simp only [e]
  rw [uq_letters b _ _ [] _ (by decide) hb.2 (by simp) (by simp; omega)]
  simp only [List.nil_append, Prod.mk.injEq, and_true, true_and]
  omega

theorem par_hdr (b : List UInt8) (hb : Letters b) (h70 : b.length ≤ 70) : par ([98, 111, 117, 110, 100, 97, 114, 121, 61, 34] ++ b ++ [34]) = ((kBound, b, ()), [], true, ()) := by
  have t1 : ∀ r : List UInt8, tk (98 :: 111 :: 117 :: 110 :: 100 :: 97 :: 114 :: 121 :: 61 :: 34 :: r) = 8 := fun r => by kernel_rfl
  have e0 : ([98, 111, 117, 110, 100, 97, 114, 121, 61, 34] ++ b ++ [34] : List UInt8) = 98 :: 111 :: 117 :: 110 :: 100 :: 97 :: 114 :: 121 :: 61 :: 34 :: (b ++ [34]) := by simp
  rw [e0]
  unfold par
  rw [t1]
  have e1 : (98 :: 111 :: 117 :: 110 :: 100 :: 97 :: 114 :: 121 :: 61 :: 34 :: (b ++ [34]) : List UInt8).drop 8 = 61 :: 34 :: (b ++ [34]) := rfl
  have e2 : (61 :: 34 :: (b ++ [34]) : List UInt8).drop 1 = 34 :: (b ++ [34]) := rfl
  have e3 : (98 :: 111 :: 117 :: 110 :: 100 :: 97 :: 114 :: 121 :: 61 :: 34 :: (b ++ [34]) : List UInt8).take 8 = kBound := rfl
  have e4 : Lib.hasPrefix (61 :: 34 :: (b ++ [34]) : List UInt8) [61] = true := by simp [Lib.hasPrefix]
  have e5 : Lib.hasPrefix (34 :: (b ++ [34]) : List UInt8) [34] = true := by simp [Lib.hasPrefix]
  have e6 : kBound.map lowc = kBound := by decide
  rw [e1, e2, e3, e4, e5, e6, unq_hdr b hb h70, if_neg (by simp), if_pos rfl, if_pos rfl]
  have e7 : (34 :: (b ++ [34]) : List UInt8).drop ((b.length + 2 : Nat) : Int).toNat = [] := List.drop_eq_nil_of_le (by simp; omega)
  simp only [e7]

theorem kd_hdr (b : List UInt8) (hb : Letters b) (h70 : b.length ≤ 70) : kd (val b) = (kMany, 0, [(kBound, (b, ()))]) := by
  have hv : val b = 109 :: 117 :: 108 :: 116 :: 105 :: 112 :: 97 :: 114 :: 116 :: 47 :: 109 :: 105 :: 120 :: 101 :: 100 :: 59 :: 32 :: ([98, 111, 117, 110, 100, 97, 114, 121, 61, 34] ++ b ++ [34]) := by simp [val]
  have t1 : ∀ r : List UInt8, tk (109 :: 117 :: 108 :: 116 :: 105 :: 112 :: 97 :: 114 :: 116 :: 47 :: 109 :: 105 :: 120 :: 101 :: 100 :: 59 :: 32 :: r) = 9 := fun r => by kernel_rfl
  have t2 : ∀ r : List UInt8, tk (109 :: 105 :: 120 :: 101 :: 100 :: 59 :: 32 :: r) = 5 := fun r => by kernel_rfl
  have u1 : ∀ r : List UInt8, trm (59 :: 32 :: (r ++ [34])) = 59 :: 32 :: (r ++ [34]) := fun r => by
    have h1 : ltr (59 :: 32 :: (r ++ [34])) = 59 :: 32 :: (r ++ [34]) := by unfold ltr; rfl
    unfold trm
    rw [h1]
    exact rtr_id (59 :: 32 :: r) 34 rfl
  have u2 : ∀ r : List UInt8, trm (32 :: 98 :: (r ++ [34])) = 98 :: (r ++ [34]) := fun r => by
    have h1 : ltr (32 :: 98 :: (r ++ [34])) = 98 :: (r ++ [34]) := by unfold ltr; rfl
    unfold trm
    rw [h1]
    exact rtr_id (98 :: r) 34 rfl
  unfold kd
  rw [(trm_val b).1, hv, t1]
  have hp := par_hdr b hb h70
  generalize hR : ([98, 111, 117, 110, 100, 97, 114, 121, 61, 34] ++ b ++ [34] : List UInt8) = R at hp
  have e1 : (109 :: 117 :: 108 :: 116 :: 105 :: 112 :: 97 :: 114 :: 116 :: 47 :: 109 :: 105 :: 120 :: 101 :: 100 :: 59 :: 32 :: R : List UInt8).drop 9 = 47 :: 109 :: 105 :: 120 :: 101 :: 100 :: 59 :: 32 :: R := rfl
  have e2 : (47 :: 109 :: 105 :: 120 :: 101 :: 100 :: 59 :: 32 :: R : List UInt8).drop 1 = 109 :: 105 :: 120 :: 101 :: 100 :: 59 :: 32 :: R := rfl
  have e3 : Lib.hasPrefix (47 :: 109 :: 105 :: 120 :: 101 :: 100 :: 59 :: 32 :: R : List UInt8) [47] = true := by simp [Lib.hasPrefix]
  have e4 : (47 :: 109 :: 105 :: 120 :: 101 :: 100 :: 59 :: 32 :: R : List UInt8).drop (1 + 5) = 59 :: 32 :: R := rfl
  have e5 : (109 :: 117 :: 108 :: 116 :: 105 :: 112 :: 97 :: 114 :: 116 :: 47 :: 109 :: 105 :: 120 :: 101 :: 100 :: 59 :: 32 :: R : List UInt8).take (9 + 1 + 5) = kMany := rfl
  rw [e1, e2, e3, t2, e4, e5]
  have e6 : trm (59 :: 32 :: R) = 59 :: 32 :: R := by
    rw [← hR, show ([98, 111, 117, 110, 100, 97, 114, 121, 61, 34] ++ b ++ [34] : List UInt8) = ([98, 111, 117, 110, 100, 97, 114, 121, 61, 34] ++ b) ++ [34] from rfl]
    exact u1 _
  have e7 : trm (32 :: R) = R := by
    rw [← hR]
    exact u2 ([111, 117, 110, 100, 97, 114, 121, 61, 34] ++ b)
  have e8 : prs (59 :: 32 :: R).length (59 :: 32 :: R) [] = some [(kBound, (b, ()))] := by
    rw [List.length_cons, prs, if_pos rfl, e7, hp, if_pos rfl]
    show prs (R.length + 1) (trm []) _ = _
    rw [show trm [] = [] from rfl, prs]
    rfl
  rw [if_neg (by simp), if_neg (by decide), e6, e8]
  simp only [List.length_cons, List.length_nil]
  rw [if_neg (by decide), show kMany.map lowc = kMany from by decide]

end Go.Mi

namespace Go.Mi
open Go Go.Ev
set_option maxRecDepth 100000

/-- the piece of many -/
def pMany (b : List UInt8) (n : Nat) : Pc := (kMany, [(kBound, (b, ()))], flds b, 0, (((hdr b).length : Nat) : Int), (n : Int), -1, 0, 0, ())

theorem piece_many (G : A14 → Option R14') (b body : List UInt8) (hb : Letters b) (h70 : b.length ≤ 70) (hl : (hdr b ++ body).length ≤ 1100000) (hG : Below14 G (hdr b ++ body) 1) :
    ∃ r, F14s G (arg14 (hdr b ++ body) [] ([], [], [], 0, 0, ((hdr b ++ body).length : Int), -1, 0, 0, ())) = some r ∧
      ((∃ L', r = (.inr (), ((hdr b ++ body, (), ()), (L', ())))) ∨ ∃ L', r = (.inl (), ((hdr b ++ body, (), ()), (L', ()))) ∧ ∃ m n, Kids [] (pMany b (hdr b ++ body).length) L' m n ∧ Told [] (pMany b (hdr b ++ body).length) L' (cutw body b 0 (-1) [])) := by
  have hs := split_hdr b body hb h70
  have hF := F29_eq (hdr b ++ body) hl
  have hv : (val b).length ≤ 1100000 := by simp [val]; omega
  have hk := F10_eq (val b) hv
  rw [kd_hdr b hb h70] at hk
  have hg := get_hdr b h70
  have hH : (hdr b).length ≤ (hdr b ++ body).length := by simp
  have hbody : List.take (((hdr b ++ body).length : Int).toNat - (((hdr b).length : Nat) : Int).toNat) (List.drop (((hdr b).length : Nat) : Int).toNat (hdr b ++ body)) = body := by
    rw [Int.toNat_natCast, Int.toNat_natCast, drop_app, List.take_of_length_le (by simp)]
  obtain ⟨r, q1, q2⟩ := tl7_many G (hdr b ++ body) hl b hb h70 (pMany b (hdr b ++ body).length) rfl rfl (by show (-1 : Int) < 0; omega) rfl (by show (0 : Int) ≤ (((hdr b).length : Nat) : Int); omega) (by show (((hdr b).length : Nat) : Int) ≤ ((hdr b ++ body).length : Int); omega) (Int.le_refl _) hG
  refine ⟨r, ?_, ?_⟩
  · have q1' : tl7 G (((), (), ()), ((hdr b ++ body, (), ()), [], (kMany, [(kBound, (b, ()))], flds b, (0 : Int), (((hdr b).length : Nat) : Int), ((hdr b ++ body).length : Int), (-1 : Int), (0 : Int), (0 : Int), ()), ())) = some r := q1
    have e0 : decide ((((List.length ([] : List Pc)) : Nat) : Int) = 32) = false := rfl
    have e1 : List.take (((hdr b ++ body).length : Int).toNat - (0 : Int).toNat) (List.drop (0 : Int).toNat (hdr b ++ body)) = hdr b ++ body := by
      rw [show (0 : Int).toNat = 0 from rfl, List.drop_zero, List.take_of_length_le (by rw [Int.toNat_natCast]; omega)]
    have e2 : decide ((0 : Int) ≤ (((hdr b ++ body).length : Nat) : Int)) = true := decide_eq_true (by omega)
    have e3 : decide ((((hdr b ++ body).length : Nat) : Int) ≤ (((hdr b ++ body).length : Nat) : Int)) = true := decide_eq_true (by omega)
    have e4 : decide ((0 : Int) ≤ 0) = true := rfl
    have w : w64 (0 + (((hdr b).length : Nat) : Int)) = (((hdr b).length : Nat) : Int) := by rw [w64_id (by omega) (by omega)]; omega
    rw [F14s_eq]
    unfold arg14
    simp only [e0, cond_false, cond_true, Option.bind_some, e1, e2, e3, e4, Bool.and_self, hF, hs, decide_true, w]
    unfold tl4
    simp only [hg, Option.bind_some, cond_true, hk, decide_true, q1']
  · rcases q2 with q2 | ⟨L', h1, m, n, h2, h3⟩
    · exact .inl q2
    · have hbody' : List.take ((tt (pMany b (hdr b ++ body).length)).toNat - (bo (pMany b (hdr b ++ body).length)).toNat) (List.drop (bo (pMany b (hdr b ++ body).length)).toNat (hdr b ++ body)) = body := hbody
      rw [hbody'] at h3
      exact .inr ⟨L', h1, m, n, h2, h3⟩

/-- A letter of many pieces. -/
theorem parse_many (b body : List UInt8) (hb : Letters b) (h70 : b.length ≤ 70) (hl : (hdr b ++ body).length ≤ 1100000) : parseOK (hdr b ++ body) = true ∧ (parseE (hdr b ++ body) = 6 ∨
    (parseE (hdr b ++ body) = 0 ∧ ∃ m n, Kids [] (pMany b (hdr b ++ body).length) (parseL (hdr b ++ body)) m n ∧ Told [] (pMany b (hdr b ++ body).length) (parseL (hdr b ++ body)) (cutw body b 0 (-1) []))) := by
  have hB : Below14 (F14 11) (hdr b ++ body) 1 := fun L y hy hd => F14_ok (hdr b ++ body) hl 11 L y hy (by omega)
  obtain ⟨r, h1, h2⟩ := piece_many (F14 11) b body hb h70 hl hB
  have hr : parseR (hdr b ++ body) = some r := h1
  rcases h2 with ⟨L', rfl⟩ | ⟨L', rfl, hp⟩
  · exact ⟨by simp [parseOK, hr], .inl (by simp [parseE, hr])⟩
  · refine ⟨by simp [parseOK, hr], .inr ⟨by simp [parseE, hr], ?_⟩⟩
    have : parseL (hdr b ++ body) = L' := by simp [parseL, hr]
    rw [this]
    exact hp

theorem kx_len (n : Nat) (L : List Pc) (m : Nat) : (kx n L m).length ≤ m := by
  unfold kx
  have := List.length_filter_le (fun i => decide (ow (pk L i) = (n : Int))) (List.range m)
  rwa [List.length_range] at this

def ints (l : List Nat) : List Int := l.map fun (i : Nat) => (i : Int)

/-- mime.kids -/
theorem F18_eq (L : List Pc) (n : Nat) (hL : L.length ≤ 32) : F18 ((L, (n : Int), ()), ()) = some ((), (ints (kx n L L.length), ())) := by
  obtain ⟨r, h1, rfl⟩ := loop_ind (f := B18_0)
    (I := fun p => ∃ i : Nat, p = (((n : Int), (), L, (L.length : Int), (i : Int), ()), (ints (kx n L i), ())) ∧ i ≤ L.length)
    (μ := fun p => L.length - p.1.2.2.2.2.1.toNat)
    (Q := fun r => r = (((), ()), (ints (kx n L L.length), ())))
    (step := fun p hp => by
      obtain ⟨i, rfl, g⟩ := hp
      by_cases hlt : i < L.length
      · have hw := w64_nat (show i < 9223372036854775807 by omega)
        have hkl := kx_len n L i
        have hby : bytesOK ((ints (kx n L i)).length + ([(i : Int)] : List Int).length) 8 = true := decide_eq_true (by simp [ints]; omega)
        refine .inl ⟨_, ?_, ⟨i + 1, rfl, hlt⟩, ?_⟩
        · rcases hq : pk L i with ⟨kk, pa, f, a, b, t, o, d, nn, u⟩
          have hg : List.getD L i (([]:List UInt8), (([]:(List ((List UInt8) × ((List UInt8) × Unit)))), (([]:(List ((List UInt8) × ((List UInt8) × (Int × Unit))))), ((0:Int), ((0:Int), ((0:Int), ((0:Int), ((0:Int), ((0:Int), ()))))))))) = (kk, pa, f, a, b, t, o, d, nn, u) := hq
          have ho : ow (pk L i) = o := by rw [hq]; rfl
          rw [kx_succ, ho]
          by_cases h : o = (n : Int)
          · have hi : ints (kx n L i ++ [i]) = ints (kx n L i) ++ [(i : Int)] := by simp [ints]
            rw [if_pos h, hi]
            simp only [B18_0, nat_lt, nat_nn, hlt, decide_true, Bool.and_self, cond_true, Int.toNat_natCast, hg, Option.bind_some, decide_eq_true h, hby, hw]
          · rw [if_neg h, List.append_nil]
            simp only [B18_0, nat_lt, nat_nn, hlt, decide_true, Bool.and_self, cond_true, Int.toNat_natCast, hg, Option.bind_some, decide_eq_false h, cond_false, hw]
        · show L.length - ((i + 1 : Nat) : Int).toNat < L.length - (i : Int).toNat
          omega
      · have : i = L.length := by omega
        subst this
        refine .inr ⟨_, ?_, rfl⟩
        simp only [B18_0, nat_lt, hlt, decide_false, cond_false])
    (p := (((n : Int), (), L, (L.length : Int), (0 : Int), ()), (([] : List Int), ()))) ⟨0, rfl, Nat.zero_le _⟩ (by
      have := FUEL_big
      show L.length - (0 : Int).toNat < FUEL
      omega)
  have h1' : L18_0 (((n : Int), (), L, (L.length : Int), (0 : Int), ()), (([] : List Int), ())) = some (((), ()), (ints (kx n L L.length), ())) := h1
  simp only [F18, h1', Option.bind_some]

theorem ints_get {l : List Nat} {k : Nat} (h : k < l.length) : (ints l).getD k 0 = ((l[k]'h : Nat) : Int) := by
  unfold ints
  rw [List.getD_eq_getElem?_getD, List.getElem?_map, List.getElem?_eq_getElem h]; rfl

/-- where a number goes from many -/
theorem F17_many (b : List UInt8) (hb : Letters b) (h70 : b.length ≤ 70) (n : Nat) (L : List Pc) (h0 : 0 < L.length) (hL : L.length ≤ 32) (hp : pk L 0 = pMany b n) (k : Nat) (hk : k < (kx 0 L L.length).length) :
    F17d ((L, (0 : Int), ((k + 1 : Nat) : Int), ()), ()) = some (((((kx 0 L L.length)[k]'hk : Nat) : Int), true, ()), ()) := by
  have h1 := F18_eq L 0 hL
  have hlen : (ints (kx 0 L L.length)).length = (kx 0 L L.length).length := by simp [ints]
  have hkl := kx_len 0 L L.length
  have hg : List.getD L 0 (([]:List UInt8), (([]:(List ((List UInt8) × ((List UInt8) × Unit)))), (([]:(List ((List UInt8) × ((List UInt8) × (Int × Unit))))), ((0:Int), ((0:Int), ((0:Int), ((0:Int), ((0:Int), ((0:Int), ()))))))))) = (kMany, [(kBound, (b, ()))], flds b, (0 : Int), (((hdr b).length : Nat) : Int), (n : Int), (-1 : Int), (0 : Int), (0 : Int), ()) := hp
  have f1 : F31 (((kMany, [(kBound, (b, ()))], flds b, (0 : Int), (((hdr b).length : Nat) : Int), (n : Int), (-1 : Int), (0 : Int), (0 : Int), ()), ()), ()) = some (b, ()) := F31_many b hb h70 (pMany b n) rfl rfl
  have e1 : decide ((0 : Int) < (L.length : Int)) = true := decide_eq_true (by omega)
  have e2 : decide (kMany = ([109, 101, 115, 115, 97, 103, 101, 47, 114, 102, 99, 56, 50, 50]:List UInt8)) = false := by decide
  have e3 : decide (b = ([] : List UInt8)) = false := decide_eq_false hb.1
  have e4 : decide ((((ints (kx 0 L L.length)).length : Nat) : Int) < ((k + 1 : Nat) : Int)) = false := decide_eq_false (by omega)
  have w : w64 (((k + 1 : Nat) : Int) - 1) = (k : Int) := by rw [w64_id (by omega) (by omega)]; omega
  have e5 : decide ((k : Int) < (((ints (kx 0 L L.length)).length : Nat) : Int)) = true := decide_eq_true (by omega)
  have e6 : decide ((0 : Int) ≤ (k : Int)) = true := decide_eq_true (by omega)
  have e7 : decide ((0 : Int) ≤ 0) = true := rfl
  have e8 : decide ((0 : Int) < 8) = true := rfl
  have h1' : F18 ((L, (0 : Int), ()), ()) = some ((), (ints (kx 0 L L.length), ())) := h1
  show F17s (F17 11) _ = _
  unfold F17s
  simp only [h1', Option.bind_some, e7, e1, Bool.and_self, Bool.true_or, cond_true, Int.toNat_zero, hg, e2, Bool.false_and, cond_false, f1, e3, Bool.not_false, e8, e4, w, e5, e6, Int.toNat_natCast, ints_get hk]

theorem F15_digit : ∀ k : Nat, k < 8 → F15 (([UInt8.ofNat (49 + k)], ()), ()) = some (((), [], true, ()), ([((k + 1 : Nat) : Int)], ()))
  | 0, _ => by kernel_rfl
  | 1, _ => by kernel_rfl
  | 2, _ => by kernel_rfl
  | 3, _ => by kernel_rfl
  | 4, _ => by kernel_rfl
  | 5, _ => by kernel_rfl
  | 6, _ => by kernel_rfl
  | 7, _ => by kernel_rfl
  | _ + 8, h => by omega

/-- where a section of many lies -/
theorem section_many (l b : List UInt8) (hb : Letters b) (h70 : b.length ≤ 70) (hok : parseOK l = true) (he : parseE l = 0) (h0 : 0 < (parseL l).length) (hL : (parseL l).length ≤ 32) (n : Nat) (hp : pk (parseL l) 0 = pMany b n) (k : Nat) (h8 : k < 8) (hk : k < (kx 0 (parseL l) (parseL l).length).length) :
    F9 ((l, [UInt8.ofNat (49 + k)], ()), ()) = some ((bo (pk (parseL l) ((kx 0 (parseL l) (parseL l).length)[k]'hk)), tt (pk (parseL l) ((kx 0 (parseL l) (parseL l).length)[k]'hk)), 0, ()), ()) := by
  have f1 := F15_digit k h8
  generalize hLL : parseL l = L at h0 hL hp hk ⊢
  have f2 := F17_many b hb h70 n L h0 hL hp k hk
  have hmem : (kx 0 L L.length)[k]'hk < L.length := kx_lt (List.getElem_mem hk)
  generalize (kx 0 L L.length)[k]'hk = i at f2 hmem
  have z2 : (((List.length [((k + 1 : Nat) : Int)]) : Nat) : Int) = 1 := rfl
  have z3 : decide ((0 : Int) < 1) = true := rfl
  have z4 : decide ((0 : Int) ≤ 0) = true := rfl
  have z5 : decide ((1 : Int) < 1) = false := rfl
  have hL9 : L9_0 ((([] : List UInt8), (), (0:Int), (), (1 : Int), (0:Int), ()), (L, [((k + 1 : Nat) : Int)], ())) = some (.inl ((([] : List UInt8), (), (i : Int), ()), (L, ()))) := by
    obtain ⟨r, h1, rfl⟩ := loop_ind (f := B9_0)
      (I := fun p => p = ((([] : List UInt8), (), (0:Int), (), (1 : Int), (0:Int), ()), (L, [((k + 1 : Nat) : Int)], ())) ∨ p = ((([] : List UInt8), (), (i:Int), (), (1 : Int), (1:Int), ()), (L, [((k + 1 : Nat) : Int)], ())))
      (μ := fun p => 1 - p.1.2.2.2.2.2.1.toNat)
      (Q := fun r => r = .inl ((([] : List UInt8), (), (i : Int), ()), (L, ())))
      (step := fun p hp => by
        rcases hp with rfl | rfl
        · refine .inl ⟨_, ?_, .inr rfl, by show 1 - (1 : Int).toNat < 1 - (0 : Int).toNat; decide⟩
          have w : w64 (0 + 1) = 1 := rfl
          simp only [B9_0, z2, z3, z4, Bool.and_self, cond_true, Int.toNat_zero, List.getD_cons_zero, f2, Option.bind_some, Bool.not_true, cond_false, w]
        · refine .inr ⟨_, ?_, rfl⟩
          simp only [B9_0, z5, cond_false])
      (p := ((([] : List UInt8), (), (0:Int), (), (1 : Int), (0:Int), ()), (L, [((k + 1 : Nat) : Int)], ()))) (.inl rfl) (by
        have := FUEL_big
        show 1 - (0 : Int).toNat < FUEL
        omega)
    exact h1
  have e1 : decide ((i : Int) < (L.length : Int)) = true := decide_eq_true (by omega)
  have e2 : decide ((0 : Int) ≤ (i : Int)) = true := decide_eq_true (by omega)
  have g1 : decide (([] : List UInt8) = ([104, 101, 97, 100, 101, 114]:List UInt8)) = false := by decide
  have g2 : decide (([] : List UInt8) = ([116, 101, 120, 116]:List UInt8)) = false := by decide
  have g3 : decide (([] : List UInt8) = ([109, 105, 109, 101]:List UInt8)) = false := by decide
  rcases hq : pk L i with ⟨kk, pa, f, a, bb, t, o, d, nn, u⟩
  have hg : List.getD L i (([]:List UInt8), (([]:(List ((List UInt8) × ((List UInt8) × Unit)))), (([]:(List ((List UInt8) × ((List UInt8) × (Int × Unit))))), ((0:Int), ((0:Int), ((0:Int), ((0:Int), ((0:Int), ((0:Int), ()))))))))) = (kk, pa, f, a, bb, t, o, d, nn, u) := hq
  have z6 : decide ((1 : Int) = 0) = false := rfl
  unfold F9
  simp only [f1, Option.bind_some, Bool.not_true, cond_false, z2, hok, cond_true, he, z6, decide_true, hLL, hL9, g1, g2, g3, Bool.or_self, e1, e2, Bool.and_self, Int.toNat_natCast, hg, bo, tt]

end Go.Mi
