/- The patterns of a letter's moment. -/
import Derived.Test.YtbaocindligcmaaDoorQq5
namespace Go.Dt
open Go Go.Ev
set_option maxRecDepth 100000

variable {l : Ls} {a : Nat}

def Ww (w : Nat) : List UInt8 := if w = 0 then [] else [87, 87, 87, 44, 32]
def Dd (d : Nat) : List UInt8 := if d = 0 then [] else [57]
def Mm : List UInt8 := [32, 77, 77, 77, 32, 57, 57, 57, 57, 32, 50, 51, 58, 53, 57]
def Ss (s : Nat) : List UInt8 := if s = 0 then [] else [58, 53, 57]
def zx (z : Nat) : UInt8 := if z = 0 then 43 else if z = 1 then 45 else if z = 2 then 71 else 85
def zr (z : Nat) : List UInt8 := if z = 0 then [50, 51, 53, 57] else if z = 1 then [50, 51, 53, 57] else if z = 2 then [109, 84] else [84]

def Pp (w d s z : Nat) : List UInt8 := Ww w ++ ([57] ++ (Dd d ++ (Mm ++ (Ss s ++ ([32] ++ zx z :: zr z)))))

def PA : Ls := (List.range 32).map fun i => Pp (i / 16) (i / 8 % 2) (i / 4 % 2) (i % 4)

theorem F24_eq : F24 ((), ()) = some ((), (PA, ())) := by kernel_rfl

theorem PA_len : PA.length = 32 := by unfold PA; simp

theorem PA_get {i : Nat} (h : i < 32) : PA[i]? = some (Pp (i / 16) (i / 8 % 2) (i / 4 % 2) (i % 4)) := by
  unfold PA
  rw [List.getElem?_map, List.getElem?_range h]; rfl

theorem PA_ok : ∀ p ∈ PA, p.length ≤ 100 ∧ p.getD 0 0 ≠ 51 := by decide

def wq (l : Ls) : List UInt8 := if isdig (peek l 0) = true then [] else [87, 87, 87, 44, 32]
def zq (l : Ls) (a : Nat) : List UInt8 := if peek l a = [43] ∨ peek l a = [45] then oq l a else if low (peek l a) = [117] then [85, 84] else [71, 109, 84]

/-- the pattern that a letter's moment is read by -/
def pq (l : Ls) : List UInt8 :=
  let wl := (wq l).length
  let a := wl + (dq l wl).length
  wq l ++ (dq l wl ++ rq 32 true l a (zq l (a + 11 + (hq true l (a + 10)).length)))

/-- The numbers of a pattern. -/
structure Ix (l : Ls) (w d s z : Nat) : Prop where
  w2 : w < 2
  d2 : d < 2
  s2 : s < 2
  z4 : z < 4
  pw : w = 0 ↔ isdig (peek l 0) = true
  pd : d = 1 ↔ isdig (peek l ((Ww w).length + 1)) = true
  ps : s = 1 ↔ peek l ((Ww w).length + 1 + d + 15) = [58]
  pz : ∀ z', z' < 4 → fitS l ((Ww w).length + 1 + d + 15 + (Ss s).length + 1) (zx z') = true → z' = z
  pq : pq l = Pp w d s z
  pwq : wq l = Ww w
  pdq : dq l (Ww w).length = [57] ++ Dd d
  phq : hq true l ((Ww w).length + 1 + d + 10) = [50, 51, 58, 53, 57] ++ Ss s
  pzq : zq l ((Ww w).length + 1 + d + 15 + (Ss s).length + 1) = zx z :: zr z

theorem Dd_len {d : Nat} (h : d < 2) : (Dd d).length = d := by
  have : d = 0 ∨ d = 1 := by omega
  rcases this with rfl | rfl <;> rfl

theorem zq_ix (l : Ls) (a : Nat) : ∃ z, z < 4 ∧ zq l a = zx z :: zr z ∧ ∀ z', z' < 4 → fitS l a (zx z') = true → z' = z := by
  have four : ∀ z' : Nat, z' < 4 → z' = 0 ∨ z' = 1 ∨ z' = 2 ∨ z' = 3 := fun z' h => by omega
  have f43 : fitS l a 43 = decide (peek l a = [43]) := fit_own (by decide)
  have f45 : fitS l a 45 = decide (peek l a = [45]) := fit_own (by decide)
  by_cases h43 : peek l a = [43]
  · refine ⟨0, by omega, ?_, fun z' hz hf => ?_⟩
    · unfold zq oq; rw [if_pos (.inl h43), if_neg (by rw [h43]; decide)]; rfl
    · rcases four z' hz with rfl | rfl | rfl | rfl
      · rfl
      · exact absurd (of_decide_eq_true (f45.symm.trans hf)) (by rw [h43]; decide)
      · exact absurd (of_decide_eq_true ((fit71 a).symm.trans hf)) (by rw [h43]; decide)
      · exact absurd (of_decide_eq_true ((fit85 a).symm.trans hf)) (by rw [h43]; decide)
  by_cases h45 : peek l a = [45]
  · refine ⟨1, by omega, ?_, fun z' hz hf => ?_⟩
    · unfold zq oq; rw [if_pos (.inr h45), if_pos h45]; rfl
    · rcases four z' hz with rfl | rfl | rfl | rfl
      · exact absurd (of_decide_eq_true (f43.symm.trans hf)) h43
      · rfl
      · exact absurd (of_decide_eq_true ((fit71 a).symm.trans hf)) (by rw [h45]; decide)
      · exact absurd (of_decide_eq_true ((fit85 a).symm.trans hf)) (by rw [h45]; decide)
  by_cases hu : low (peek l a) = [117]
  · refine ⟨3, by omega, ?_, fun z' hz hf => ?_⟩
    · unfold zq; rw [if_neg (fun h => h.elim h43 h45), if_pos hu]; rfl
    · rcases four z' hz with rfl | rfl | rfl | rfl
      · exact absurd (of_decide_eq_true (f43.symm.trans hf)) h43
      · exact absurd (of_decide_eq_true (f45.symm.trans hf)) h45
      · exact absurd (of_decide_eq_true ((fit71 a).symm.trans hf)) (by rw [hu]; decide)
      · rfl
  · refine ⟨2, by omega, ?_, fun z' hz hf => ?_⟩
    · unfold zq; rw [if_neg (fun h => h.elim h43 h45), if_neg hu]; rfl
    · rcases four z' hz with rfl | rfl | rfl | rfl
      · exact absurd (of_decide_eq_true (f43.symm.trans hf)) h43
      · exact absurd (of_decide_eq_true (f45.symm.trans hf)) h45
      · rfl
      · exact absurd (of_decide_eq_true ((fit85 a).symm.trans hf)) hu

theorem ix (l : Ls) : ∃ w d s z, Ix l w d s z := by
  obtain ⟨w, hw2, hw, hwq⟩ : ∃ w : Nat, w < 2 ∧ (w = 0 ↔ isdig (peek l 0) = true) ∧ wq l = Ww w := by
    by_cases h : isdig (peek l 0) = true
    · exact ⟨0, by omega, by simp [h], by unfold wq; rw [if_pos h]; rfl⟩
    · exact ⟨1, by omega, by simp [h], by unfold wq; rw [if_neg h]; rfl⟩
  obtain ⟨d, hd2, hd, hdq⟩ : ∃ d : Nat, d < 2 ∧ (d = 1 ↔ isdig (peek l ((Ww w).length + 1)) = true) ∧ dq l (Ww w).length = [57] ++ Dd d := by
    by_cases h : isdig (peek l ((Ww w).length + 1)) = true
    · exact ⟨1, by omega, by simp [h], by unfold dq; rw [if_pos h]; rfl⟩
    · exact ⟨0, by omega, by simp [h], by unfold dq; rw [if_neg h]; rfl⟩
  obtain ⟨s, hs2, hs, hsq⟩ : ∃ s : Nat, s < 2 ∧ (s = 1 ↔ peek l ((Ww w).length + 1 + d + 15) = [58]) ∧ hq true l ((Ww w).length + 1 + d + 10) = [50, 51, 58, 53, 57] ++ Ss s := by
    by_cases h : peek l ((Ww w).length + 1 + d + 15) = [58]
    · exact ⟨1, by omega, by simp [h], by unfold hq; rw [if_neg (fun h' => h'.2 h)]; rfl⟩
    · exact ⟨0, by omega, by simp [h], by unfold hq; rw [if_pos ⟨rfl, h⟩]; rfl⟩
  obtain ⟨z, hz4, hzq, hz⟩ := zq_ix l ((Ww w).length + 1 + d + 15 + (Ss s).length + 1)
  refine ⟨w, d, s, z, hw2, hd2, hs2, hz4, hw, hd, hs, hz, ?_, hwq, hdq, hsq, hzq⟩
  unfold pq
  simp only [hwq, hdq]
  have e1 : (Ww w).length + ([57] ++ Dd d).length = (Ww w).length + 1 + d := by
    rw [List.length_append, Dd_len hd2]; simp; omega
  rw [e1]
  unfold rq
  rw [hsq]
  have e2 : (Ww w).length + 1 + d + 11 + ([50, 51, 58, 53, 57] ++ Ss s).length = (Ww w).length + 1 + d + 15 + (Ss s).length + 1 := by
    rw [List.length_append]; simp; omega
  rw [e2, hzq]
  unfold Pp Mm
  simp

/-- Where two patterns part. -/
theorem bst_parse {w d s z : Nat} (I : Ix l w d s z) : bst l PA 0 0 = if full l (pq l) = true then (((16 * w + 8 * d + 4 * s + z : Nat) : Int), (mt l (pq l) 0).1) else (-1, (mt l (pq l) 0).1) := by
  have iw2 := I.w2
  have id2 := I.d2
  have is2 := I.s2
  have iz4 := I.z4
  have hk : 16 * w + 8 * d + 4 * s + z < 32 := by omega
  have hg := PA_get hk
  rw [show (16 * w + 8 * d + 4 * s + z) / 16 = w by omega, show (16 * w + 8 * d + 4 * s + z) / 8 % 2 = d by omega, show (16 * w + 8 * d + 4 * s + z) / 4 % 2 = s by omega, show (16 * w + 8 * d + 4 * s + z) % 4 = z by omega, ← I.pq] at hg
  refine bst_dom hg fun i p hi hne => ?_
  have hi32 : i < 32 := by
    rcases Nat.lt_or_ge i 32 with h | h
    · exact h
    · rw [List.getElem?_eq_none (by rw [PA_len]; exact h)] at hi; cases hi
  rw [PA_get hi32] at hi
  cases hi
  have b1 : i / 16 < 2 := by omega
  have b2 : i / 8 % 2 < 2 := by omega
  have b3 : i / 4 % 2 < 2 := by omega
  have b4 : i % 4 < 4 := by omega
  have hne' : ¬ (i / 16 = w ∧ i / 8 % 2 = d ∧ i / 4 % 2 = s ∧ i % 4 = z) := by omega
  generalize i / 16 = w' at *
  generalize i / 8 % 2 = d' at *
  generalize i / 4 % 2 = s' at *
  generalize i % 4 = z' at *
  clear hg hne hk hi32
  rw [I.pq]
  by_cases hw : w' = w
  · subst hw
    by_cases hd : d' = d
    · subst hd
      by_cases hs : s' = s
      · subst hs
        have hz : z' ≠ z := fun h => hne' ⟨rfl, rfl, rfl, h⟩
        have hc : ∀ z, Pp w' d' s' z = (Ww w' ++ ([57] ++ (Dd d' ++ (Mm ++ (Ss s' ++ [32]))))) ++ zx z :: zr z := fun z => by unfold Pp; simp
        rw [hc z', hc z]
        refine dom fun _ hh => ?_
        have hlen : (Ww w' ++ ([57] ++ (Dd d' ++ (Mm ++ (Ss s' ++ [32]))))).length = (Ww w').length + 1 + d' + 15 + (Ss s').length + 1 := by
          simp only [List.length_append, Dd_len b2]; unfold Mm; simp; omega
        rw [hlen] at hh
        exact hz (I.pz z' b4 hh.2)
      · have hc : ∀ s z, Pp w' d' s z = (Ww w' ++ ([57] ++ (Dd d' ++ Mm))) ++ (Ss s ++ ([32] ++ zx z :: zr z)) := fun s z => by unfold Pp; simp
        have hlen : (Ww w' ++ ([57] ++ (Dd d' ++ Mm))).length = (Ww w').length + 1 + d' + 15 := by
          simp only [List.length_append, Dd_len b2]; unfold Mm; simp; omega
        rw [hc s' z', hc s z]
        have hs' : s' = 0 ∨ s' = 1 := by omega
        rcases hs' with rfl | rfl
        · have e : Ss 0 ++ ([32] ++ zx z' :: zr z') = 32 :: (zx z' :: zr z') := rfl
          rw [e]
          refine dom fun _ hh => ?_
          rw [hlen, fit_own (by decide)] at hh
          have h4 := of_decide_eq_true hh.2
          have h5 := I.ps.1 (by omega)
          rw [h4] at h5; exact absurd h5 (by decide)
        · have e : Ss 1 ++ ([32] ++ zx z' :: zr z') = 58 :: ([53, 57, 32] ++ zx z' :: zr z') := rfl
          rw [e]
          refine dom fun _ hh => ?_
          rw [hlen, fit_own (by decide)] at hh
          have h4 := of_decide_eq_true hh.2
          have h5 := I.ps.2 h4
          omega
    · have hc : ∀ d s z, Pp w' d s z = (Ww w' ++ [57]) ++ (Dd d ++ (Mm ++ (Ss s ++ ([32] ++ zx z :: zr z)))) := fun d s z => by unfold Pp; simp
      have hlen : (Ww w' ++ [57]).length = (Ww w').length + 1 := by simp
      rw [hc d' s' z', hc d s z]
      have hd' : d' = 0 ∨ d' = 1 := by omega
      rcases hd' with rfl | rfl
      · have e : Dd 0 ++ (Mm ++ (Ss s' ++ ([32] ++ zx z' :: zr z'))) = 32 :: ([77, 77, 77, 32, 57, 57, 57, 57, 32, 50, 51, 58, 53, 57] ++ (Ss s' ++ ([32] ++ zx z' :: zr z'))) := rfl
        rw [e]
        refine dom fun _ hh => ?_
        rw [hlen, fit_own (by decide)] at hh
        have h4 := of_decide_eq_true hh.2
        have h5 := I.pd.1 (by omega)
        rw [h4] at h5; exact absurd h5 (by decide)
      · have e : Dd 1 ++ (Mm ++ (Ss s' ++ ([32] ++ zx z' :: zr z'))) = 57 :: (Mm ++ (Ss s' ++ ([32] ++ zx z' :: zr z'))) := rfl
        rw [e]
        refine dom fun _ hh => ?_
        rw [hlen, fit57] at hh
        have h5 := I.pd.2 hh.2
        omega
  · have hw' : w' = 0 ∨ w' = 1 := by omega
    rcases hw' with rfl | rfl
    · have e : Pp 0 d' s' z' = [] ++ 57 :: (Dd d' ++ (Mm ++ (Ss s' ++ ([32] ++ zx z' :: zr z')))) := rfl
      have e2 : Pp w d s z = [] ++ Pp w d s z := rfl
      rw [e, e2]
      refine dom fun _ hh => ?_
      have h3 := hh.2
      rw [fit57] at h3
      have := I.pw.2 h3
      omega
    · have e : Pp 1 d' s' z' = [] ++ 87 :: ([87, 87, 44, 32] ++ ([57] ++ (Dd d' ++ (Mm ++ (Ss s' ++ ([32] ++ zx z' :: zr z')))))) := rfl
      have e2 : Pp w d s z = [] ++ Pp w d s z := rfl
      rw [e, e2]
      refine dom fun _ hh => ?_
      have h3 : fitS l 0 87 = true := hh.2
      have hdg := I.pw.1 (by omega)
      have hl0 : 0 < l.length := hh.1
      -- a digit begins no weekday
      rw [fit87] at h3
      have hb : bk l 2 0 = 0 := by unfold bk; rw [if_neg (by omega)]
      rw [hb] at h3
      have hcat : cat l 0 1 = low (peek l 0) := by
        have := cat_snoc (l := l) (f := 0) (n := 0) hl0
        rw [this]; unfold cat; simp [low, peek]
      have h3' : begins weeks (cat l 0 1) = true := h3
      rw [hcat] at h3'
      simp only [isdig, Bool.and_eq_true, decide_eq_true_eq] at hdg
      obtain ⟨x, hx⟩ := List.length_eq_one_iff.1 hdg.1.1
      rw [hx] at h3' hdg
      have hx1 : 48 ≤ x.toNat := hdg.1.2
      have hx2 : x.toNat ≤ 57 := hdg.2
      have hlow : low [x] = [x] := by
        unfold low low1
        simp only [List.map_cons, List.map_nil]
        rw [if_neg (by omega)]
      rw [hlow] at h3'
      simp only [begins, Bool.and_eq_true, List.any_eq_true, decide_eq_true_eq] at h3'
      obtain ⟨_, y, hy, hyx⟩ := h3'
      have hfirst : ∀ y ∈ weeks, 97 ≤ (((low y).take 1).getD 0 0).toNat := by decide
      have := hfirst y hy
      rw [show [x].length = 1 from rfl] at hyx
      rw [hyx] at this
      have h9 : 97 ≤ x.toNat := this
      omega

end Go.Dt

namespace Go.Dt
open Go Go.Ev
set_option maxRecDepth 100000

variable {l : Ls} {a : Nat}

theorem week_sim (hg : Good l) : (weekP l).2 = st l (mt l (wq l) 0) ∧ ((mt l (wq l) 0).2 = true → (isdig (peek l 0) = true ∧ (weekP l).1 = -1) ∨ (isdig (peek l 0) = false ∧ 5 ≤ l.length ∧ ∃ k : Nat, hit weeks 3 (peek l 0 ++ peek l 1 ++ peek l 2) = some k ∧ (weekP l).1 = k)) := by
  unfold weekP wq
  by_cases hd : isdig (peek l 0) = true
  · rw [if_pos hd, if_pos hd]
    exact ⟨rfl, fun _ => .inl ⟨hd, rfl⟩⟩
  · rw [if_neg hd, if_neg hd]
    have s1 := names_sim (a := 0) hg weeks_3 fit87 (.inl rfl)
    have s2 := sim_sg (a := 0 + [(87 : UInt8), 87, 87].length) hg (b := 44) (by decide)
    have s3 := sim_sg (a := 0 + [(87 : UInt8), 87, 87].length + [(44 : UInt8)].length) hg (b := 32) (by decide)
    have c2 := s2.comp' s3.stay fun _ => s3
    have c1 := s1.1.comp' (Y := fun p => sg [32] l (sg [44] l p)) c2.stay fun _ => c2
    refine ⟨c1.go (Nat.zero_le _), fun hm => .inr ⟨by simpa using hd, ?_, ?_⟩⟩
    · have h1 := mt_true hm
      have h2 := mt_len (l := l) (p := [87, 87, 87, 44, 32]) (Nat.zero_le l.length)
      rw [h1] at h2
      exact h2
    · have hm' : (mt l ([87, 87, 87] ++ [44, 32]) 0).2 = true := hm
      obtain ⟨m1, _⟩ := mt_split hm'
      exact s1.2 (Nat.zero_le _) m1

def zv (l : Ls) (a : Nat) : Int := if peek l a = [43] ∨ peek l a = [45] then ov l a else 0

theorem zoneP_sim (hg : Good l) : Sim l (fun p => (zoneP l p).2) (zq l a) a ∧ (a ≤ l.length → (mt l (zq l a) a).2 = true → (zoneP l (a, 0)).1 = zv l a) := by
  have s1 := off_sim (l := l) (a := a) hg
  have s2 := zone_sim (l := l) (a := a) hg
  refine ⟨⟨fun ha => ?_, fun p hp => ?_⟩, fun ha hm => ?_⟩
  · unfold zq
    by_cases h : peek l a = [43] ∨ peek l a = [45]
    · rw [if_pos h]
      have e : zoneP l (a, 0) = offS l (a, 0) := by unfold zoneP; rw [if_pos h]
      show (zoneP l (a, 0)).2 = _
      rw [e]; exact s1.1.go ha
    · rw [if_neg h]
      have e : zoneP l (a, 0) = (0, (ww zn l (a, 0)).2) := by unfold zoneP; rw [if_neg h]
      show (zoneP l (a, 0)).2 = _
      rw [e]; exact s2.go ha
  · show (zoneP l p).2 = p
    unfold zoneP
    split
    · exact s1.1.stay p hp
    · exact s2.stay p hp
  · unfold zv
    unfold zq at hm
    by_cases h : peek l a = [43] ∨ peek l a = [45]
    · rw [if_pos h] at hm ⊢
      have e : zoneP l (a, 0) = offS l (a, 0) := by unfold zoneP; rw [if_pos h]
      rw [e]; exact s1.2 ha hm
    · rw [if_neg h]
      have e : zoneP l (a, 0) = (0, (ww zn l (a, 0)).2) := by unfold zoneP; rw [if_neg h]
      rw [e]

/-- What a letter's moment says. -/
structure Says (l : Ls) (wl dl : Nat) : Prop where
  d : (parseP l).d = dv l dl 0 wl
  y : (parseP l).y = dv l 4 0 (wl + dl + 5)
  m : ∃ km : Nat, hit months 3 (peek l (wl + dl + 1) ++ peek l (wl + dl + 2) ++ peek l (wl + dl + 3)) = some km ∧ (parseP l).m = 1 + (km : Int)
  s : (parseP l).s = sv true l (wl + dl + 10)
  z : (parseP l).z = zv l (wl + dl + 11 + (hq true l (wl + dl + 10)).length)
  k : (isdig (peek l 0) = true ∧ (parseP l).k = -1) ∨ (isdig (peek l 0) = false ∧ 5 ≤ l.length ∧ ∃ k : Nat, hit weeks 3 (peek l 0 ++ peek l 1 ++ peek l 2) = some k ∧ (parseP l).k = k)

theorem parse_sim (hg : Good l) : (parseP l).p = st l (mt l (pq l) 0) ∧ ((mt l (pq l) 0).2 = true → Says l (wq l).length (dq l (wq l).length).length) := by
  obtain ⟨w1, w2⟩ := week_sim (l := l) hg
  generalize hW : (wq l).length = wl
  have hn := n12_sim (l := l) (a := wl) hg
  generalize hD : (dq l wl).length = dl
  have hz := zoneP_sim (l := l) (a := wl + dl + 11 + (hq true l (wl + dl + 10)).length) hg
  have hr := rest_sim (l := l) (a := wl + dl) hg (sep := 32) (by decide) (by decide) (may := true) (Z := zoneP l) (Zq := zq l (wl + dl + 11 + (hq true l (wl + dl + 10)).length)) (zv := zv l (wl + dl + 11 + (hq true l (wl + dl + 10)).length)) hz.1 hz.2 (weekP l).1 (n12S l (weekP l).2).1
  have hpq : pq l = wq l ++ (dq l wl ++ rq 32 true l (wl + dl) (zq l (wl + dl + 11 + (hq true l (wl + dl + 10)).length))) := by
    unfold pq; simp only [hW, hD]
  rw [hpq]
  generalize rq 32 true l (wl + dl) (zq l (wl + dl + 11 + (hq true l (wl + dl + 10)).length)) = R at hr
  have hap := mt_append l (wq l) (dq l wl ++ R) 0
  rw [Nat.zero_add, hW] at hap
  have hap2 := mt_append l (dq l wl) R wl
  rw [hD] at hap2
  rw [hap]
  have hk : (parseP l).k = (weekP l).1 := rfl
  cases hm : (mt l (wq l) 0).2 with
  | false =>
    rw [if_neg (by simp)]
    refine ⟨?_, fun h => by rw [hm] at h; cases h⟩
    have hs := st_false (l := l) hm
    rw [← w1] at hs
    unfold parseP
    rw [← w1]
    have e1 : (n12S l (weekP l).2).2 = (weekP l).2 := hn.1.stay _ hs
    rw [e1]
    exact hr.1.stay _ hs
  | true =>
    rw [if_pos rfl, hap2]
    have hpos := mt_true hm
    have hle := mt_len (l := l) (p := wq l) (Nat.zero_le l.length)
    rw [Nat.zero_add, hW] at hpos
    rw [hpos] at hle
    have e0 : (weekP l).2 = (wl, 0) := by rw [w1, st_true hm, hpos]
    have g1 : (n12S l (wl, 0)).2 = _ := hn.1.go hle
    cases hm2 : (mt l (dq l wl) wl).2 with
    | false =>
      rw [if_neg (by simp)]
      refine ⟨?_, fun h => by rw [hm2] at h; cases h⟩
      have hs := st_false (l := l) hm2
      rw [← g1] at hs
      unfold parseP
      rw [e0] at hr ⊢
      rw [← g1]
      exact hr.1.stay _ hs
    | true =>
      rw [if_pos rfl]
      have hpos2 := mt_true hm2
      have hle2 := mt_len (l := l) (p := dq l wl) hle
      rw [hD] at hpos2
      rw [hpos2] at hle2
      have e1 : (n12S l (wl, 0)).2 = (wl + dl, 0) := by rw [g1, st_true hm2, hpos2]
      have hP : parseP l = restP l [32] (weekP l).1 (n12S l (weekP l).2).1 (wl + dl, 0) true (zoneP l) := by
        unfold parseP; rw [e0, e1]
      refine ⟨by rw [hP]; exact hr.1.go hle2, fun h => ?_⟩
      have := hr.2 hle2 h
      rw [← hP] at this
      refine ⟨?_, this.1, this.2.1, this.2.2.1, this.2.2.2, by rw [hk]; exact w2 hm⟩
      have hd : (parseP l).d = (n12S l (weekP l).2).1 := rfl
      rw [hd, e0, hn.2 hle hm2, hD]

end Go.Dt
