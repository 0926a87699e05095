/- The walk of a word. -/
import Derived.Test.YtbaocindligcmaaDoorNq4
import Derived.Test.YtbaocindligcmaaDoorNq3
namespace Go.Dt
open Go Go.Ev
set_option maxRecDepth 100000

variable {l : Ls} {a : Nat} {w y m d s z q : Int}

theorem inner46 {names : Ls} (hN : Nms names) {k : Nat} {got : List UInt8} (hg : got.length ≤ 400) (l : Ls) (x1 x2 x3 x4 x5 x6 x7 x8 : Int) :
    L14_1 (((), (), (), (), names, (names.length : Int), 0, ()), ((l, x1, x2, x3, x4, x5, x6, x7, x8, ()), (names, ()), (got, ()), ((k : Int), ()), ())) =
    some (match hit names k got with
      | none => Sum.inl (((), (), (), (), ()), ((l, x1, x2, x3, x4, x5, x6, x7, x8, ()), (names, ()), (got, ()), ((k : Int), ()), ()))
      | some i => Sum.inr (((), (i : Int), ()), ((l, x1, x2, x3, x4, x5, x6, x7, x8, ()), ()))) := by
  obtain ⟨r, h1, h2⟩ := loop_ind (f := B14_1) (fun p => ∃ (i : Nat), p = (((), (), (), (), names, (names.length : Int), (i : Int), ()), ((l, x1, x2, x3, x4, x5, x6, x7, x8, ()), (names, ()), (got, ()), ((k : Int), ()), ())) ∧ i ≤ names.length ∧
      hit names k got = (hit (names.drop i) k got).map (· + i))
    (fun p => ((names.length : Int) - p.1.2.2.2.2.2.2.1).toNat)
    (fun r => r = match hit names k got with
      | none => Sum.inl (((), (), (), (), ()), ((l, x1, x2, x3, x4, x5, x6, x7, x8, ()), (names, ()), (got, ()), ((k : Int), ()), ()))
      | some i => Sum.inr (((), (i : Int), ()), ((l, x1, x2, x3, x4, x5, x6, x7, x8, ()), ())))
    (fun p ⟨i, hp, hi, hG⟩ => by
      subst hp
      by_cases hlt : i < names.length
      · have c1 : decide ((i : Int) < ((names.length : Nat) : Int)) = true := by simp; omega
        have c2 : decide ((0 : Int) ≤ (i : Int)) = true := by simp
        have wi : w64 ((i : Int) + 1) = ((i + 1 : Nat) : Int) := by have := hN.len; rw [w64_id (by omega) (by omega)]; rfl
        have hmem : names.getD i [] ∈ names := by rw [getD_ltL hlt]; exact List.getElem_mem hlt
        have hxl := hN.each _ hmem
        have hd : names.drop i = names.getD i [] :: names.drop (i + 1) := by rw [List.drop_eq_getElem_cons hlt, getD_ltL hlt]
        rw [hd] at hG
        have hc : hit (names.getD i [] :: names.drop (i + 1)) k got = if (decide ((names.getD i []).length = k) && decide (low (names.getD i []) = low got)) = true then some 0 else (hit (names.drop (i + 1)) k got).map (· + 1) := by
          unfold hit
          rw [List.findIdx?_cons]
        rw [hc] at hG
        have e1 := F40_eq (s := names.getD i []) (t := got) (by omega) (by omega)
        have step : (decide ((names.getD i []).length = k) && decide (low (names.getD i []) = low got)) = false → hit names k got = (hit (names.drop (i + 1)) k got).map (· + (i + 1)) := by
          intro hf
          rw [hf, if_neg (by simp), Option.map_map] at hG
          rw [hG]
          congr 1
          funext t
          show t + 1 + i = t + (i + 1)
          omega
        by_cases hk : (names.getD i []).length = k
        · have c3 : decide ((((names.getD i []).length : Nat) : Int) = (k : Int)) = true := decide_eq_true (by omega)
          cases hB : decide (low (names.getD i []) = low got) with
          | true =>
            right
            rw [decide_eq_true hk, hB, if_pos (by rfl)] at hG
            simp only [Option.map_some, Nat.zero_add] at hG
            rw [hG]
            refine ⟨_, ?_, rfl⟩
            simp only [B14_1, Int.toNat_natCast, c1, c2, c3, e1, hB, Bool.and_self, cond_true, Option.bind_some]
          | false =>
            left
            refine ⟨_, ?_, ⟨i + 1, rfl, by omega, step (by rw [hB, Bool.and_false])⟩, by simp only; omega⟩
            simp only [B14_1, Int.toNat_natCast, c1, c2, c3, e1, hB, Bool.and_self, cond_true, cond_false, Option.bind_some, wi]
        · left
          have c3 : decide ((((names.getD i []).length : Nat) : Int) = (k : Int)) = false := decide_eq_false (by omega)
          refine ⟨_, ?_, ⟨i + 1, rfl, by omega, step (by rw [decide_eq_false hk, Bool.false_and])⟩, by simp only; omega⟩
          simp only [B14_1, Int.toNat_natCast, c1, c2, c3, Bool.and_self, cond_true, cond_false, Option.bind_some, wi]
      · right
        have c1 : decide ((i : Int) < ((names.length : Nat) : Int)) = false := by simp; omega
        have hf : hit names k got = none := by
          rw [hG, List.drop_of_length_le (by omega)]; rfl
        rw [hf]
        exact ⟨_, by simp only [B14_1, c1, cond_false] <;> rfl, rfl⟩)
    (p := (((), (), (), (), names, (names.length : Int), 0, ()), ((l, x1, x2, x3, x4, x5, x6, x7, x8, ()), (names, ()), (got, ()), ((k : Int), ()), ()))) ⟨0, rfl, Nat.zero_le _, by simp⟩ (by have := hN.len; unfold FUEL; simp only; omega)
  subst h2
  exact h1

theorem goes_false {names : Ls} (hN : Nms names) {k : Nat} (hk : 3 ≤ k) {got c : List UInt8} : goes names k got c = false := by
  unfold goes
  rw [List.any_eq_false]
  intro x hx
  have := hN.each x hx
  rw [decide_eq_false (by omega)]
  simp

theorem b46_step {names : Ls} (hN : Nms names) {k : Nat} (hk : k ≤ 3) {got : List UInt8} (hg : got.length ≤ 16) (hl : l.length ≤ 2000000) (ha : a ≤ l.length) (hlc : ∀ x ∈ l, x.length ≤ 4) :
    B14_0 (((), (), (), (), ()), ((l, (a : Int), w, y, m, d, s, z, q, ()), (names, ()), (got, ()), ((k : Int), ()), ())) = some (match hit names k got with
      | some i => Sum.inr (((), (i : Int), ()), ((l, (a : Int), w, y, m, d, s, z, q, ()), ()))
      | none => if (tk (goes names k got) l a w).1 = [] then Sum.inr (((), 0, ()), ((l, ((tk (goes names k got) l a w).2.1 : Int), (tk (goes names k got) l a w).2.2, y, m, d, s, z, q, ()), ()))
        else Sum.inl (((), (), (), (), ()), ((l, ((tk (goes names k got) l a w).2.1 : Int), (tk (goes names k got) l a w).2.2, y, m, d, s, z, q, ()), (names, ()), (got ++ (tk (goes names k got) l a w).1, ()), ((k + 1 : Nat), ()), ()))) := by
  have wa : w64 ((a : Int) + 1) = ((a + 1 : Nat) : Int) := by rw [w64_id (by omega) (by omega)]; rfl
  have wk : w64 ((k : Int) + 1) = ((k + 1 : Nat) : Int) := by rw [w64_id (by omega) (by omega)]; rfl
  have hpl : (peek l a).length ≤ 4 := by
    unfold peek
    rcases Nat.lt_or_ge a l.length with h | h
    · rw [getD_ltL h]; exact hlc _ (List.getElem_mem h)
    · rw [List.getD_eq_getElem?_getD, List.getElem?_eq_none h]; simp
  cases hh : hit names k got with
  | some i => simp only [B14_0, inner46 hN (show got.length ≤ 400 by omega), hh, Option.bind_some]
  | none =>
    by_cases h : w = 0 ∧ peek l a ≠ []
    · obtain ⟨rfl, hne⟩ := h
      have c3 : decide (peek l a = []) = false := decide_eq_false hne
      have e1 := F42_eq hN (k := k) (by omega) (got := got) (c := peek l a) (by omega) (by omega)
      cases hG : goes names k got (peek l a) with
      | true =>
        rw [tk_yes rfl hne hG]
        have f1 : fits (got.length + (peek l a).length) = true := fits_true (by omega)
        simp only [B14_0, inner46 hN (show got.length ≤ 400 by omega), hh, Option.bind_some, F13_eq, decide_true, Bool.not_true, Bool.false_or, c3, Bool.not_false, cond_true, cond_false, e1, hG, f1, wa, wk, if_neg hne]
      | false =>
        rw [tk_no (fun hh => by rw [hG] at hh; cases hh.2.2)]
        simp only [B14_0, inner46 hN (show got.length ≤ 400 by omega), hh, Option.bind_some, F13_eq, decide_true, Bool.not_true, Bool.false_or, c3, Bool.not_false, cond_true, e1, hG, F62_eq, if_true]
    · have c1 : (!((!decide (w = 0)) || decide (peek l a = []))) = false := by
        by_cases h1 : w = 0
        · have : peek l a = [] := Classical.byContradiction fun h2 => h ⟨h1, h2⟩
          simp [h1, this]
        · simp [h1]
      rw [tk_no (fun hh => h ⟨hh.1, hh.2.1⟩)]
      simp only [B14_0, inner46 hN (show got.length ≤ 400 by omega), hh, Option.bind_some, F13_eq, c1, cond_false, F62_eq, if_true]

theorem F14_eq {names : Ls} (hN : Nms names) (hl : l.length ≤ 2000000) (ha : a ≤ l.length) (hlc : ∀ x ∈ l, x.length ≤ 4) :
    F14 (((), names, ()), ((l, (a : Int), w, y, m, d, s, z, q, ()), ())) = some ((wd names l 5 0 [] a w).1, ((l, ((wd names l 5 0 [] a w).2.1 : Int), (wd names l 5 0 [] a w).2.2, y, m, d, s, z, q, ()), ())) ∧ (wd names l 5 0 [] a w).2.1 ≤ l.length := by
  generalize hR : wd names l 5 0 [] a w = R
  obtain ⟨r, h1, h2, h3⟩ := loop_ind (f := B14_0) (fun p => ∃ (k f a' : Nat) (w' : Int) (got : List UInt8), p = (((), (), (), (), ()), ((l, (a' : Int), w', y, m, d, s, z, q, ()), (names, ()), (got, ()), ((k : Int), ()), ())) ∧ k ≤ 3 ∧ k + f = 5 ∧ got.length ≤ 4 * k ∧ a' ≤ l.length ∧
      wd names l f k got a' w' = R)
    (fun p => ((5 : Int) - p.2.2.2.2.1.1).toNat)
    (fun r => r = (((), (R).1, ()), ((l, ((R).2.1 : Int), (R).2.2, y, m, d, s, z, q, ()), ())) ∧ (R).2.1 ≤ l.length)
    (fun p ⟨k, f, a', w', got, hp, hk, hkf, hgl, ha', hw⟩ => by
      subst hp
      rw [b46_step hN hk (by omega) hl ha' hlc]
      obtain ⟨f, rfl⟩ : ∃ f', f = f' + 1 := ⟨f - 1, by omega⟩
      simp only [wd] at hw
      cases hh : hit names k got with
      | some i =>
        right
        rw [hh] at hw
        rw [← hw]
        exact ⟨_, rfl, rfl, ha'⟩
      | none =>
        rw [hh] at hw
        simp only at hw
        by_cases he : (tk (goes names k got) l a' w').1 = []
        · right
          rw [if_pos he] at hw
          rw [← hw]
          simp only [if_pos he]
          exact ⟨_, rfl, rfl, tk_le _ ha'⟩
        · left
          rw [if_neg he] at hw
          simp only [if_neg he]
          have hlt : k < 3 := Classical.byContradiction fun hc => by
            have := tk_val he
            rw [goes_false hN (by omega)] at this
            cases this
          have hcl : (tk (goes names k got) l a' w').1.length ≤ 4 := by
            unfold tk
            split
            · unfold peek
              rcases Nat.lt_or_ge a' l.length with h | h
              · rw [getD_ltL h]; exact hlc _ (List.getElem_mem h)
              · rw [List.getD_eq_getElem?_getD, List.getElem?_eq_none h]; simp
            · simp
          exact ⟨_, rfl, ⟨k + 1, f, _, _, _, rfl, by omega, by omega, by rw [List.length_append]; omega, tk_le _ ha', hw⟩, by simp only; omega⟩)
    (p := (((), (), (), (), ()), ((l, (a : Int), w, y, m, d, s, z, q, ()), (names, ()), ([], ()), (0, ()), ()))) ⟨0, 5, a, w, [], rfl, by omega, rfl, by simp, ha, hR⟩ (by unfold FUEL; simp only; omega)
  subst h2
  have h1' : L14_0 (((), (), (), (), ()), ((l, (a : Int), w, y, m, d, s, z, q, ()), (names, ()), ([], ()), (0, ()), ())) = some (((), (R).1, ()), ((l, ((R).2.1 : Int), (R).2.2, y, m, d, s, z, q, ()), ())) := h1
  exact ⟨by simp only [F14, h1', Option.bind_some], h3⟩

end Go.Dt

namespace Go.Dt
open Go Go.Ev
set_option maxRecDepth 100000

variable {l : Ls} {a : Nat} {w y m d s z q : Int}

theorem nm_bound {b : Int} : ∀ (j : Nat) {v : Int} {a : Nat} {w : Int}, 0 ≤ v → 0 ≤ (nm b l j v a w).1 ∧ (nm b l j v a w).1 + 1 ≤ (v + 1) * 10 ^ j
  | 0, v, a, w, h => ⟨h, by simp [nm]⟩
  | j + 1, v, a, w, h => by
    unfold nm
    simp only
    split
    · have := nm_bound j (b := b) (a := (tk (fun c => isdig c && decide ((v * 10 + dval c) * 10 ^ j < b)) l a w).2.1) (w := (tk (fun c => isdig c && decide ((v * 10 + dval c) * 10 ^ j < b)) l a w).2.2) h
      refine ⟨this.1, Int.le_trans this.2 ?_⟩
      have hp : (0 : Int) ≤ 10 ^ j := Int.pow_nonneg (by omega)
      have : (v + 1) * (10 : Int) ^ (j + 1) = (v + 1) * 10 ^ j * 10 := by rw [Int.pow_succ, Int.mul_assoc]
      have h2 : 0 ≤ (v + 1) * (10 : Int) ^ j := Int.mul_nonneg (by omega) hp
      omega
    · next hc =>
      have hx := tk_val hc
      rw [Bool.and_eq_true] at hx
      obtain ⟨_, e1, e2⟩ := isdig_val hx.1
      generalize dval (tk (fun c => isdig c && decide ((v * 10 + dval c) * 10 ^ j < b)) l a w).1 = x at e1 e2 ⊢
      have := nm_bound j (b := b) (v := v * 10 + x) (a := (tk (fun c => isdig c && decide ((v * 10 + dval c) * 10 ^ j < b)) l a w).2.1) (w := (tk (fun c => isdig c && decide ((v * 10 + dval c) * 10 ^ j < b)) l a w).2.2) (by omega)
      refine ⟨this.1, Int.le_trans this.2 ?_⟩
      have hp : (0 : Int) ≤ 10 ^ j := Int.pow_nonneg (by omega)
      rw [Int.pow_succ, Int.mul_comm (10 ^ j) 10, ← Int.mul_assoc]
      exact Int.mul_le_mul_of_nonneg_right (by omega) hp

theorem nm1 {b : Int} : 0 ≤ (nm b l 1 0 a w).1 ∧ (nm b l 1 0 a w).1 ≤ 9 := by
  have := nm_bound (l := l) (b := b) 1 (v := 0) (a := a) (w := w) (by omega)
  omega

theorem nm2 {b : Int} : 0 ≤ (nm b l 2 0 a w).1 ∧ (nm b l 2 0 a w).1 ≤ 99 := by
  have := nm_bound (l := l) (b := b) 2 (v := 0) (a := a) (w := w) (by omega)
  omega

theorem nm4 {b : Int} : 0 ≤ (nm b l 4 0 a w).1 ∧ (nm b l 4 0 a w).1 ≤ 9999 := by
  have := nm_bound (l := l) (b := b) 4 (v := 0) (a := a) (w := w) (by omega)
  omega

/-- One sign is taken. -/
def sg (c : List UInt8) (l : Ls) (p : Nat × Int) : Nat × Int := (tk (fun x => decide (x = c)) l p.1 p.2).2

def nn (b : Int) (n : Nat) (l : Ls) (p : Nat × Int) : Int × Nat × Int := nm b l n 0 p.1 p.2

def ww (names : Ls) (l : Ls) (p : Nat × Int) : Int × Nat × Int := wd names l 5 0 [] p.1 p.2

theorem sg_le {c : List UInt8} {p : Nat × Int} (h : p.1 ≤ l.length) : (sg c l p).1 ≤ l.length := tk_le _ h

theorem sign_eq (hl : l.length ≤ 2000000) {p : Nat × Int} (hp : p.1 ≤ l.length) (c : List UInt8) :
    F16 (((), c, ()), ((l, (p.1 : Int), p.2, y, m, d, s, z, q, ()), ())) = some ((), ((l, ((sg c l p).1 : Int), (sg c l p).2, y, m, d, s, z, q, ()), ())) := F16_eq hl hp c

theorem num1_eq (hl : l.length ≤ 2000000) {p : Nat × Int} (hp : p.1 ≤ l.length) (b : Int) :
    F19 (((), 1, b, ()), ((l, (p.1 : Int), p.2, y, m, d, s, z, q, ()), ())) = some ((nn b 1 l p).1, ((l, ((nn b 1 l p).2.1 : Int), (nn b 1 l p).2.2, y, m, d, s, z, q, ()), ())) := (F19_eq (n := 1) (by omega) hl hp).1

theorem num2_eq (hl : l.length ≤ 2000000) {p : Nat × Int} (hp : p.1 ≤ l.length) (b : Int) :
    F19 (((), 2, b, ()), ((l, (p.1 : Int), p.2, y, m, d, s, z, q, ()), ())) = some ((nn b 2 l p).1, ((l, ((nn b 2 l p).2.1 : Int), (nn b 2 l p).2.2, y, m, d, s, z, q, ()), ())) := (F19_eq (n := 2) (by omega) hl hp).1

theorem num4_eq (hl : l.length ≤ 2000000) {p : Nat × Int} (hp : p.1 ≤ l.length) (b : Int) :
    F19 (((), 4, b, ()), ((l, (p.1 : Int), p.2, y, m, d, s, z, q, ()), ())) = some ((nn b 4 l p).1, ((l, ((nn b 4 l p).2.1 : Int), (nn b 4 l p).2.2, y, m, d, s, z, q, ()), ())) := (F19_eq (n := 4) (by omega) hl hp).1

theorem nm_le {b : Int} : ∀ (j : Nat) {v : Int} {a : Nat} {w : Int}, a ≤ l.length → (nm b l j v a w).2.1 ≤ l.length
  | 0, _, _, _, h => h
  | j + 1, _, _, _, h => nm_le j (tk_le _ h)

theorem nn_le {b : Int} {n : Nat} {p : Nat × Int} (h : p.1 ≤ l.length) : (nn b n l p).2.1 ≤ l.length := nm_le n h

theorem wd_le {names : Ls} : ∀ (f : Nat) {k : Nat} {got : List UInt8} {a : Nat} {w : Int}, a ≤ l.length → (wd names l f k got a w).2.1 ≤ l.length
  | 0, _, _, _, _, h => h
  | f + 1, k, got, a, w, h => by
    simp only [wd]
    split
    · exact h
    · split
      · exact tk_le _ h
      · exact wd_le f (tk_le _ h)

theorem ww_le {names : Ls} {p : Nat × Int} (h : p.1 ≤ l.length) : (ww names l p).2.1 ≤ l.length := wd_le 5 h

theorem word_eq {names : Ls} (hN : Nms names) (hl : l.length ≤ 2000000) (hlc : ∀ x ∈ l, x.length ≤ 4) {p : Nat × Int} (hp : p.1 ≤ l.length) :
    F14 (((), names, ()), ((l, (p.1 : Int), p.2, y, m, d, s, z, q, ()), ())) = some ((ww names l p).1, ((l, ((ww names l p).2.1 : Int), (ww names l p).2.2, y, m, d, s, z, q, ()), ())) := (F14_eq hN hl hp hlc).1

/-- A time of a day. -/
def hmsS (may : Bool) (l : Ls) (p : Nat × Int) : Int × Nat × Int :=
  let h := nn 24 2 l p
  let n := nn 60 2 l (sg [58] l h.2)
  if may = true ∧ peek l n.2.1 ≠ [58] then (3600 * h.1 + 60 * n.1, n.2)
  else
    let e := nn 60 2 l (sg [58] l n.2)
    (3600 * h.1 + 60 * n.1 + e.1, e.2)

theorem hms_eq (hl : l.length ≤ 2000000) {p : Nat × Int} (hp : p.1 ≤ l.length) (may : Bool) :
    F20 (((), may, ()), ((l, (p.1 : Int), p.2, y, m, d, s, z, q, ()), ())) = some ((), ((l, ((hmsS may l p).2.1 : Int), (hmsS may l p).2.2, y, m, d, (hmsS may l p).1, z, q, ()), ())) := by
  have h1 := nn_le (l := l) (b := 24) (n := 2) hp
  have h2 := sg_le (c := [58]) h1
  have h3 := nn_le (l := l) (b := 60) (n := 2) h2
  have h4 := sg_le (c := [58]) h3
  have b1 := nm2 (l := l) (b := 24) (a := p.1) (w := p.2)
  have b2 := nm2 (l := l) (b := 60) (a := (sg [58] l (nn 24 2 l p).2).1) (w := (sg [58] l (nn 24 2 l p).2).2)
  have b3 := nm2 (l := l) (b := 60) (a := (sg [58] l (nn 60 2 l (sg [58] l (nn 24 2 l p).2)).2).1) (w := (sg [58] l (nn 60 2 l (sg [58] l (nn 24 2 l p).2)).2).2)
  change 0 ≤ (nn 24 2 l p).1 ∧ (nn 24 2 l p).1 ≤ 99 at b1
  change 0 ≤ (nn 60 2 l (sg [58] l (nn 24 2 l p).2)).1 ∧ (nn 60 2 l (sg [58] l (nn 24 2 l p).2)).1 ≤ 99 at b2
  change 0 ≤ (nn 60 2 l (sg [58] l (nn 60 2 l (sg [58] l (nn 24 2 l p).2)).2)).1 ∧ (nn 60 2 l (sg [58] l (nn 60 2 l (sg [58] l (nn 24 2 l p).2)).2)).1 ≤ 99 at b3
  have w1 : w64 (3600 * (nn 24 2 l p).1) = 3600 * (nn 24 2 l p).1 := w64_id (by omega) (by omega)
  have w2 : w64 (60 * (nn 60 2 l (sg [58] l (nn 24 2 l p).2)).1) = 60 * (nn 60 2 l (sg [58] l (nn 24 2 l p).2)).1 := w64_id (by omega) (by omega)
  have w3 : w64 (3600 * (nn 24 2 l p).1 + 60 * (nn 60 2 l (sg [58] l (nn 24 2 l p).2)).1) = 3600 * (nn 24 2 l p).1 + 60 * (nn 60 2 l (sg [58] l (nn 24 2 l p).2)).1 := w64_id (by omega) (by omega)
  have w4 : w64 (3600 * (nn 24 2 l p).1 + 60 * (nn 60 2 l (sg [58] l (nn 24 2 l p).2)).1 + (nn 60 2 l (sg [58] l (nn 60 2 l (sg [58] l (nn 24 2 l p).2)).2)).1) =
    3600 * (nn 24 2 l p).1 + 60 * (nn 60 2 l (sg [58] l (nn 24 2 l p).2)).1 + (nn 60 2 l (sg [58] l (nn 60 2 l (sg [58] l (nn 24 2 l p).2)).2)).1 := w64_id (by omega) (by omega)
  unfold hmsS
  cases may with
  | false =>
    rw [if_neg (by simp)]
    simp only [F20, num2_eq hl hp, Option.bind_some, sign_eq hl h1, num2_eq hl h2, cond_false, w1, w2, w3, sign_eq hl h3, num2_eq hl h4, decide_true, cond_true, w4]
  | true =>
    by_cases hc : peek l (nn 60 2 l (sg [58] l (nn 24 2 l p).2)).2.1 = [58]
    · rw [if_neg (fun h => h.2 hc)]
      have c1 := decide_eq_true hc
      simp only [F20, num2_eq hl hp, Option.bind_some, sign_eq hl h1, num2_eq hl h2, cond_true, w1, w2, w3, F13_eq, c1, Bool.not_true, cond_false, sign_eq hl h3, num2_eq hl h4, decide_true, w4]
    · rw [if_pos ⟨rfl, hc⟩]
      have c1 := decide_eq_false hc
      simp only [F20, num2_eq hl hp, Option.bind_some, sign_eq hl h1, num2_eq hl h2, cond_true, w1, w2, w3, F13_eq, c1, Bool.not_false]

/-- A zone. -/
def offS (l : Ls) (p : Nat × Int) : Int × Nat × Int :=
  let c := tk (fun x => decide (x = [43]) || decide (x = [45])) l p.1 p.2
  let h := nn 24 2 l c.2
  let n := nn 60 2 l h.2
  (if c.1 = [45] then -(60 * h.1 + n.1) else 60 * h.1 + n.1, n.2)

theorem off_eq (hl : l.length ≤ 2000000) {p : Nat × Int} (hp : p.1 ≤ l.length) :
    F21 (((), ()), ((l, (p.1 : Int), p.2, y, m, d, s, z, q, ()), ())) = some ((), ((l, ((offS l p).2.1 : Int), (offS l p).2.2, y, m, d, s, (offS l p).1, q, ()), ())) := by
  have key : ∀ c : List UInt8 × Nat × Int, c.2.1 ≤ l.length → ∀ r, (w64 (w64 (60 * (nn 24 2 l c.2).1) + (nn 60 2 l (nn 24 2 l c.2).2).1) = 60 * (nn 24 2 l c.2).1 + (nn 60 2 l (nn 24 2 l c.2).2).1 →
      w64 (0 - (60 * (nn 24 2 l c.2).1 + (nn 60 2 l (nn 24 2 l c.2).2).1)) = -(60 * (nn 24 2 l c.2).1 + (nn 60 2 l (nn 24 2 l c.2).2).1) → (nn 24 2 l c.2).2.1 ≤ l.length → r) → r := by
    intro c hc r h
    have b1 := nm2 (l := l) (b := 24) (a := c.2.1) (w := c.2.2)
    have b2 := nm2 (l := l) (b := 60) (a := (nn 24 2 l c.2).2.1) (w := (nn 24 2 l c.2).2.2)
    change 0 ≤ (nn 24 2 l c.2).1 ∧ (nn 24 2 l c.2).1 ≤ 99 at b1
    change 0 ≤ (nn 60 2 l (nn 24 2 l c.2).2).1 ∧ (nn 60 2 l (nn 24 2 l c.2).2).1 ≤ 99 at b2
    refine h ?_ ?_ (nn_le hc)
    · rw [w64_id (n := 60 * (nn 24 2 l c.2).1) (by omega) (by omega), w64_id (by omega) (by omega)]
    · rw [w64_id (by omega) (by omega)]; omega
  unfold offS
  simp only
  generalize hc : tk (fun x => decide (x = [43]) || decide (x = [45])) l p.1 p.2 = c
  have hcl : c.2.1 ≤ l.length := by rw [← hc]; exact tk_le _ hp
  refine key c hcl _ fun w1 w2 h1 => ?_
  have wa : w64 ((p.1 : Int) + 1) = ((p.1 + 1 : Nat) : Int) := by rw [w64_id (by omega) (by omega)]; rfl
  obtain ⟨pa, pw⟩ := p
  simp only at hc wa hp ⊢
  by_cases h : pw = 0 ∧ peek l pa ≠ []
  · obtain ⟨rfl, hne⟩ := h
    have c3 : decide (peek l pa = []) = false := decide_eq_false hne
    by_cases h2 : (decide (peek l pa = [43]) || decide (peek l pa = [45])) = true
    · rw [tk_yes rfl hne h2] at hc
      subst hc
      simp only [F21, F13_eq, Option.bind_some, decide_true, Bool.not_true, Bool.false_or, c3, Bool.not_false, cond_true, h2, cond_false, wa]
      have e1 := num2_eq (y := y) (m := m) (d := d) (s := s) (z := z) (q := q) hl (p := (pa + 1, (0 : Int))) hcl 24
      simp only at e1
      rw [e1]
      simp only [Option.bind_some, num2_eq hl h1, w1]
      by_cases h3 : peek l pa = [45]
      · simp only [decide_eq_true h3, cond_true, w2, if_pos h3]
      · simp only [decide_eq_false h3, cond_false, if_neg h3]
    · have h2' : (decide (peek l pa = [43]) || decide (peek l pa = [45])) = false := by simpa using h2
      rw [tk_no (fun hh => h2 hh.2.2)] at hc
      subst hc
      simp only [F21, F13_eq, Option.bind_some, decide_true, Bool.not_true, Bool.false_or, c3, Bool.not_false, cond_true, h2', F62_eq]
      have e1 := num2_eq (y := y) (m := m) (d := d) (s := s) (z := z) (q := q) hl (p := (pa, stopw l pa 0)) hcl 24
      simp only at e1
      rw [e1]
      simp only [Option.bind_some, num2_eq hl h1, w1]
      rfl
  · have c1 : (!((!decide (pw = 0)) || decide (peek l pa = []))) = false := by
      by_cases h1 : pw = 0
      · have : peek l pa = [] := Classical.byContradiction fun h2 => h ⟨h1, h2⟩
        simp [h1, this]
      · simp [h1]
    rw [tk_no (fun hh => h ⟨hh.1, hh.2.1⟩)] at hc
    subst hc
    simp only [F21, F13_eq, Option.bind_some, c1, cond_false, F62_eq]
    have e1 := num2_eq (y := y) (m := m) (d := d) (s := s) (z := z) (q := q) hl (p := (pa, stopw l pa pw)) hcl 24
    simp only at e1
    rw [e1]
    simp only [Option.bind_some, num2_eq hl h1, w1]
    rfl

/-- A number of one digit, or two. -/
def n12S (l : Ls) (p : Nat × Int) : Int × Nat × Int :=
  let v := nn 10 1 l p
  if isdig (peek l v.2.1) = true then
    let u := nn 10 1 l v.2
    (v.1 * 10 + u.1, u.2)
  else v

theorem n12_eq (hl : l.length ≤ 2000000) {p : Nat × Int} (hp : p.1 ≤ l.length) :
    F17 (((), ()), ((l, (p.1 : Int), p.2, y, m, d, s, z, q, ()), ())) = some ((n12S l p).1, ((l, ((n12S l p).2.1 : Int), (n12S l p).2.2, y, m, d, s, z, q, ()), ())) := by
  have h1 := nn_le (l := l) (b := 10) (n := 1) hp
  have b1 := nm1 (l := l) (b := 10) (a := p.1) (w := p.2)
  have b2 := nm1 (l := l) (b := 10) (a := (nn 10 1 l p).2.1) (w := (nn 10 1 l p).2.2)
  change 0 ≤ (nn 10 1 l p).1 ∧ (nn 10 1 l p).1 ≤ 9 at b1
  change 0 ≤ (nn 10 1 l (nn 10 1 l p).2).1 ∧ (nn 10 1 l (nn 10 1 l p).2).1 ≤ 9 at b2
  have w1 : w64 ((nn 10 1 l p).1 * 10) = (nn 10 1 l p).1 * 10 := w64_id (by omega) (by omega)
  have w2 : w64 ((nn 10 1 l p).1 * 10 + (nn 10 1 l (nn 10 1 l p).2).1) = (nn 10 1 l p).1 * 10 + (nn 10 1 l (nn 10 1 l p).2).1 := w64_id (by omega) (by omega)
  unfold n12S
  cases hd : isdig (peek l (nn 10 1 l p).2.1) with
  | true =>
    simp only [F17, num1_eq hl hp, Option.bind_some, F13_eq, F12_eq, hd, cond_true, num1_eq hl h1, w1, w2, if_true]
  | false =>
    simp only [F17, num1_eq hl hp, Option.bind_some, F13_eq, F12_eq, hd, cond_false, Bool.false_eq_true, if_false]

theorem hms_le {may : Bool} {p : Nat × Int} (h : p.1 ≤ l.length) : (hmsS may l p).2.1 ≤ l.length := by
  have h1 := nn_le (l := l) (b := 60) (n := 2) (sg_le (c := [58]) (nn_le (l := l) (b := 24) (n := 2) h))
  unfold hmsS
  simp only
  split
  · exact h1
  · exact nn_le (sg_le h1)

theorem off_le {p : Nat × Int} (h : p.1 ≤ l.length) : (offS l p).2.1 ≤ l.length := nn_le (nn_le (tk_le _ h))

theorem n12_le {p : Nat × Int} (h : p.1 ≤ l.length) : (n12S l p).2.1 ≤ l.length := by
  unfold n12S
  simp only
  split
  · exact nn_le (nn_le h)
  · exact nn_le h

end Go.Dt
