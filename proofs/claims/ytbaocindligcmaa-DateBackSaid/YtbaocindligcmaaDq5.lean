/- The walk of a word. -/
import Derived.Test.YtbaocindligcmaaDq4
import Derived.Test.YtbaocindligcmaaDq2
import Derived.Test.YtbaocindligcmaaDq3
namespace Go.Dt
open Go Go.Ev
set_option maxRecDepth 100000

variable {l : Ls} {a : Nat} {w y m d s z q : Int}

theorem inner46 {names : Ls} (hN : Nms names) {k : Nat} {got : List UInt8} (hg : got.length ≤ 400) (l : Ls) (x1 x2 x3 x4 x5 x6 x7 x8 : Int) :
    L46_1 (((), (), (), (), names, (names.length : Int), 0, ()), ((l, x1, x2, x3, x4, x5, x6, x7, x8, ()), (names, ()), (got, ()), ((k : Int), ()), ())) =
    some (match hit names k got with
      | none => Sum.inl (((), (), (), (), ()), ((l, x1, x2, x3, x4, x5, x6, x7, x8, ()), (names, ()), (got, ()), ((k : Int), ()), ()))
      | some i => Sum.inr (((), (i : Int), ()), ((l, x1, x2, x3, x4, x5, x6, x7, x8, ()), ()))) := by
  obtain ⟨r, h1, h2⟩ := loop_ind (f := B46_1) (fun p => ∃ (i : Nat), p = (((), (), (), (), names, (names.length : Int), (i : Int), ()), ((l, x1, x2, x3, x4, x5, x6, x7, x8, ()), (names, ()), (got, ()), ((k : Int), ()), ())) ∧ i ≤ names.length ∧
      hit names k got = (hit (names.drop i) k got).map (· + i))
    (fun p => ((names.length : Int) - p.1.2.2.2.2.2.2.1).toNat)
    (fun r => r = match hit names k got with
      | none => Sum.inl (((), (), (), (), ()), ((l, x1, x2, x3, x4, x5, x6, x7, x8, ()), (names, ()), (got, ()), ((k : Int), ()), ()))
      | some i => Sum.inr (((), (i : Int), ()), ((l, x1, x2, x3, x4, x5, x6, x7, x8, ()), ())))
    (fun p ⟨i, hp, hi, hG⟩ => by
      subst hp
      by_cases hlt : i < names.length
      · have c1 : decide ((i : Int) < ((names.length : Nat) : Int)) = true := by simp; omega
        have c2 : decide ((0 : Int) ≤ (i : Int)) = true := by simp
        have wi : w64 ((i : Int) + 1) = ((i + 1 : Nat) : Int) := by have := hN.len; rw [w64_id (by omega) (by omega)]; rfl
        have hmem : names.getD i [] ∈ names := by rw [getD_ltL hlt]; exact List.getElem_mem hlt
        have hxl := hN.each _ hmem
        have hd : names.drop i = names.getD i [] :: names.drop (i + 1) := by rw [List.drop_eq_getElem_cons hlt, getD_ltL hlt]
        rw [hd] at hG
        have hc : hit (names.getD i [] :: names.drop (i + 1)) k got = if (decide ((names.getD i []).length = k) && decide (low (names.getD i []) = low got)) = true then some 0 else (hit (names.drop (i + 1)) k got).map (· + 1) := by
          unfold hit
          rw [List.findIdx?_cons]
        rw [hc] at hG
        have e1 := F55_eq (s := names.getD i []) (t := got) (by omega) (by omega)
        have step : (decide ((names.getD i []).length = k) && decide (low (names.getD i []) = low got)) = false → hit names k got = (hit (names.drop (i + 1)) k got).map (· + (i + 1)) := by
          intro hf
          rw [hf, if_neg (by simp), Option.map_map] at hG
          rw [hG]
          congr 1
          funext t
          show t + 1 + i = t + (i + 1)
          omega
        by_cases hk : (names.getD i []).length = k
        · have c3 : decide ((((names.getD i []).length : Nat) : Int) = (k : Int)) = true := decide_eq_true (by omega)
          cases hB : decide (low (names.getD i []) = low got) with
          | true =>
            right
            rw [decide_eq_true hk, hB, if_pos (by rfl)] at hG
            simp only [Option.map_some, Nat.zero_add] at hG
            rw [hG]
            refine ⟨_, ?_, rfl⟩
            simp only [B46_1, Int.toNat_natCast, c1, c2, c3, e1, hB, Bool.and_self, cond_true, Option.bind_some]
          | false =>
            left
            refine ⟨_, ?_, ⟨i + 1, rfl, by omega, step (by rw [hB, Bool.and_false])⟩, by simp only; omega⟩
            simp only [B46_1, Int.toNat_natCast, c1, c2, c3, e1, hB, Bool.and_self, cond_true, cond_false, Option.bind_some, wi]
        · left
          have c3 : decide ((((names.getD i []).length : Nat) : Int) = (k : Int)) = false := decide_eq_false (by omega)
          refine ⟨_, ?_, ⟨i + 1, rfl, by omega, step (by rw [decide_eq_false hk, Bool.false_and])⟩, by simp only; omega⟩
          simp only [B46_1, Int.toNat_natCast, c1, c2, c3, Bool.and_self, cond_true, cond_false, Option.bind_some, wi]
      · right
        have c1 : decide ((i : Int) < ((names.length : Nat) : Int)) = false := by simp; omega
        have hf : hit names k got = none := by
          rw [hG, List.drop_of_length_le (by omega)]; rfl
        rw [hf]
        exact ⟨_, by simp only [B46_1, c1, cond_false] <;> rfl, rfl⟩)
    (p := (((), (), (), (), names, (names.length : Int), 0, ()), ((l, x1, x2, x3, x4, x5, x6, x7, x8, ()), (names, ()), (got, ()), ((k : Int), ()), ()))) ⟨0, rfl, Nat.zero_le _, by simp⟩ (by have := hN.len; unfold FUEL; simp only; omega)
  subst h2
  exact h1

theorem goes_false {names : Ls} (hN : Nms names) {k : Nat} (hk : 3 ≤ k) {got c : List UInt8} : goes names k got c = false := by
  unfold goes
  rw [List.any_eq_false]
  intro x hx
  have := hN.each x hx
  rw [decide_eq_false (by omega)]
  simp

theorem b46_step {names : Ls} (hN : Nms names) {k : Nat} (hk : k ≤ 3) {got : List UInt8} (hg : got.length ≤ 16) (hl : l.length ≤ 1000000) (ha : a ≤ l.length) (hlc : ∀ x ∈ l, x.length ≤ 4) :
    B46_0 (((), (), (), (), ()), ((l, (a : Int), w, y, m, d, s, z, q, ()), (names, ()), (got, ()), ((k : Int), ()), ())) = some (match hit names k got with
      | some i => Sum.inr (((), (i : Int), ()), ((l, (a : Int), w, y, m, d, s, z, q, ()), ()))
      | none => if (tk (goes names k got) l a w).1 = [] then Sum.inr (((), 0, ()), ((l, ((tk (goes names k got) l a w).2.1 : Int), (tk (goes names k got) l a w).2.2, y, m, d, s, z, q, ()), ()))
        else Sum.inl (((), (), (), (), ()), ((l, ((tk (goes names k got) l a w).2.1 : Int), (tk (goes names k got) l a w).2.2, y, m, d, s, z, q, ()), (names, ()), (got ++ (tk (goes names k got) l a w).1, ()), ((k + 1 : Nat), ()), ()))) := by
  have wa : w64 ((a : Int) + 1) = ((a + 1 : Nat) : Int) := by rw [w64_id (by omega) (by omega)]; rfl
  have wk : w64 ((k : Int) + 1) = ((k + 1 : Nat) : Int) := by rw [w64_id (by omega) (by omega)]; rfl
  have hpl : (peek l a).length ≤ 4 := by
    unfold peek
    rcases Nat.lt_or_ge a l.length with h | h
    · rw [getD_ltL h]; exact hlc _ (List.getElem_mem h)
    · rw [List.getD_eq_getElem?_getD, List.getElem?_eq_none h]; simp
  cases hh : hit names k got with
  | some i => simp only [B46_0, inner46 hN (show got.length ≤ 400 by omega), hh, Option.bind_some]
  | none =>
    by_cases h : w = 0 ∧ peek l a ≠ []
    · obtain ⟨rfl, hne⟩ := h
      have c3 : decide (peek l a = []) = false := decide_eq_false hne
      have e1 := F57_eq hN (k := k) (by omega) (got := got) (c := peek l a) (by omega) (by omega)
      cases hG : goes names k got (peek l a) with
      | true =>
        rw [tk_yes rfl hne hG]
        have f1 : fits (got.length + (peek l a).length) = true := fits_true (by omega)
        simp only [B46_0, inner46 hN (show got.length ≤ 400 by omega), hh, Option.bind_some, F45_eq, decide_true, Bool.not_true, Bool.false_or, c3, Bool.not_false, cond_true, cond_false, e1, hG, f1, wa, wk, if_neg hne]
      | false =>
        rw [tk_no (fun hh => by rw [hG] at hh; cases hh.2.2)]
        simp only [B46_0, inner46 hN (show got.length ≤ 400 by omega), hh, Option.bind_some, F45_eq, decide_true, Bool.not_true, Bool.false_or, c3, Bool.not_false, cond_true, e1, hG, F62_eq, if_true]
    · have c1 : (!((!decide (w = 0)) || decide (peek l a = []))) = false := by
        by_cases h1 : w = 0
        · have : peek l a = [] := Classical.byContradiction fun h2 => h ⟨h1, h2⟩
          simp [h1, this]
        · simp [h1]
      rw [tk_no (fun hh => h ⟨hh.1, hh.2.1⟩)]
      simp only [B46_0, inner46 hN (show got.length ≤ 400 by omega), hh, Option.bind_some, F45_eq, c1, cond_false, F62_eq, if_true]

theorem F46_eq {names : Ls} (hN : Nms names) (hl : l.length ≤ 1000000) (ha : a ≤ l.length) (hlc : ∀ x ∈ l, x.length ≤ 4) :
    F46 (((), names, ()), ((l, (a : Int), w, y, m, d, s, z, q, ()), ())) = some ((wd names l 5 0 [] a w).1, ((l, ((wd names l 5 0 [] a w).2.1 : Int), (wd names l 5 0 [] a w).2.2, y, m, d, s, z, q, ()), ())) ∧ (wd names l 5 0 [] a w).2.1 ≤ l.length := by
  generalize hR : wd names l 5 0 [] a w = R
  obtain ⟨r, h1, h2, h3⟩ := loop_ind (f := B46_0) (fun p => ∃ (k f a' : Nat) (w' : Int) (got : List UInt8), p = (((), (), (), (), ()), ((l, (a' : Int), w', y, m, d, s, z, q, ()), (names, ()), (got, ()), ((k : Int), ()), ())) ∧ k ≤ 3 ∧ k + f = 5 ∧ got.length ≤ 4 * k ∧ a' ≤ l.length ∧
      wd names l f k got a' w' = R)
    (fun p => ((5 : Int) - p.2.2.2.2.1.1).toNat)
    (fun r => r = (((), (R).1, ()), ((l, ((R).2.1 : Int), (R).2.2, y, m, d, s, z, q, ()), ())) ∧ (R).2.1 ≤ l.length)
    (fun p ⟨k, f, a', w', got, hp, hk, hkf, hgl, ha', hw⟩ => by
      subst hp
      rw [b46_step hN hk (by omega) hl ha' hlc]
      obtain ⟨f, rfl⟩ : ∃ f', f = f' + 1 := ⟨f - 1, by omega⟩
      simp only [wd] at hw
      cases hh : hit names k got with
      | some i =>
        right
        rw [hh] at hw
        rw [← hw]
        exact ⟨_, rfl, rfl, ha'⟩
      | none =>
        rw [hh] at hw
        simp only at hw
        by_cases he : (tk (goes names k got) l a' w').1 = []
        · right
          rw [if_pos he] at hw
          rw [← hw]
          simp only [if_pos he]
          exact ⟨_, rfl, rfl, tk_le _ ha'⟩
        · left
          rw [if_neg he] at hw
          simp only [if_neg he]
          have hlt : k < 3 := Classical.byContradiction fun hc => by
            have := tk_val he
            rw [goes_false hN (by omega)] at this
            cases this
          have hcl : (tk (goes names k got) l a' w').1.length ≤ 4 := by
            unfold tk
            split
            · unfold peek
              rcases Nat.lt_or_ge a' l.length with h | h
              · rw [getD_ltL h]; exact hlc _ (List.getElem_mem h)
              · rw [List.getD_eq_getElem?_getD, List.getElem?_eq_none h]; simp
            · simp
          exact ⟨_, rfl, ⟨k + 1, f, _, _, _, rfl, by omega, by omega, by rw [List.length_append]; omega, tk_le _ ha', hw⟩, by simp only; omega⟩)
    (p := (((), (), (), (), ()), ((l, (a : Int), w, y, m, d, s, z, q, ()), (names, ()), ([], ()), (0, ()), ()))) ⟨0, 5, a, w, [], rfl, by omega, rfl, by simp, ha, hR⟩ (by unfold FUEL; simp only; omega)
  subst h2
  have h1' : L46_0 (((), (), (), (), ()), ((l, (a : Int), w, y, m, d, s, z, q, ()), (names, ()), ([], ()), (0, ()), ())) = some (((), (R).1, ()), ((l, ((R).2.1 : Int), (R).2.2, y, m, d, s, z, q, ()), ())) := h1
  exact ⟨by simp only [F46, h1', Option.bind_some], h3⟩

end Go.Dt

namespace Go.Dt
open Go Go.Ev
set_option maxRecDepth 100000

variable {l : Ls} {a : Nat} {w y m d s z q : Int}

theorem nm_bound {b : Int} : ∀ (j : Nat) {v : Int} {a : Nat} {w : Int}, 0 ≤ v → 0 ≤ (nm b l j v a w).1 ∧ (nm b l j v a w).1 + 1 ≤ (v + 1) * 10 ^ j
  | 0, v, a, w, h => ⟨h, by simp [nm]⟩
  | j + 1, v, a, w, h => by
    unfold nm
    simp only
    split
    · have := nm_bound j (b := b) (a := (tk (fun c => isdig c && decide ((v * 10 + dval c) * 10 ^ j < b)) l a w).2.1) (w := (tk (fun c => isdig c && decide ((v * 10 + dval c) * 10 ^ j < b)) l a w).2.2) h
      refine ⟨this.1, Int.le_trans this.2 ?_⟩
      have hp : (0 : Int) ≤ 10 ^ j := Int.pow_nonneg (by omega)
      have : (v + 1) * (10 : Int) ^ (j + 1) = (v + 1) * 10 ^ j * 10 := by rw [Int.pow_succ, Int.mul_assoc]
      have h2 : 0 ≤ (v + 1) * (10 : Int) ^ j := Int.mul_nonneg (by omega) hp
      omega
    · next hc =>
      have hx := tk_val hc
      rw [Bool.and_eq_true] at hx
      obtain ⟨_, e1, e2⟩ := isdig_val hx.1
      generalize dval (tk (fun c => isdig c && decide ((v * 10 + dval c) * 10 ^ j < b)) l a w).1 = x at e1 e2 ⊢
      have := nm_bound j (b := b) (v := v * 10 + x) (a := (tk (fun c => isdig c && decide ((v * 10 + dval c) * 10 ^ j < b)) l a w).2.1) (w := (tk (fun c => isdig c && decide ((v * 10 + dval c) * 10 ^ j < b)) l a w).2.2) (by omega)
      refine ⟨this.1, Int.le_trans this.2 ?_⟩
      have hp : (0 : Int) ≤ 10 ^ j := Int.pow_nonneg (by omega)
      rw [Int.pow_succ, Int.mul_comm (10 ^ j) 10, ← Int.mul_assoc]
      exact Int.mul_le_mul_of_nonneg_right (by omega) hp

theorem nm1 {b : Int} : 0 ≤ (nm b l 1 0 a w).1 ∧ (nm b l 1 0 a w).1 ≤ 9 := by
  have := nm_bound (l := l) (b := b) 1 (v := 0) (a := a) (w := w) (by omega)
  omega

theorem nm2 {b : Int} : 0 ≤ (nm b l 2 0 a w).1 ∧ (nm b l 2 0 a w).1 ≤ 99 := by
  have := nm_bound (l := l) (b := b) 2 (v := 0) (a := a) (w := w) (by omega)
  omega

theorem nm4 {b : Int} : 0 ≤ (nm b l 4 0 a w).1 ∧ (nm b l 4 0 a w).1 ≤ 9999 := by
  have := nm_bound (l := l) (b := b) 4 (v := 0) (a := a) (w := w) (by omega)
  omega

/-- One sign is taken. -/
def sg (c : List UInt8) (l : Ls) (p : Nat × Int) : Nat × Int := (tk (fun x => decide (x = c)) l p.1 p.2).2

def nn (b : Int) (n : Nat) (l : Ls) (p : Nat × Int) : Int × Nat × Int := nm b l n 0 p.1 p.2

def ww (names : Ls) (l : Ls) (p : Nat × Int) : Int × Nat × Int := wd names l 5 0 [] p.1 p.2

theorem sg_le {c : List UInt8} {p : Nat × Int} (h : p.1 ≤ l.length) : (sg c l p).1 ≤ l.length := tk_le _ h

theorem sign_eq (hl : l.length ≤ 1000000) {p : Nat × Int} (hp : p.1 ≤ l.length) (c : List UInt8) :
    F47 (((), c, ()), ((l, (p.1 : Int), p.2, y, m, d, s, z, q, ()), ())) = some ((), ((l, ((sg c l p).1 : Int), (sg c l p).2, y, m, d, s, z, q, ()), ())) := F47_eq hl hp c

theorem num1_eq (hl : l.length ≤ 1000000) {p : Nat × Int} (hp : p.1 ≤ l.length) (b : Int) :
    F49 (((), 1, b, ()), ((l, (p.1 : Int), p.2, y, m, d, s, z, q, ()), ())) = some ((nn b 1 l p).1, ((l, ((nn b 1 l p).2.1 : Int), (nn b 1 l p).2.2, y, m, d, s, z, q, ()), ())) := (F49_eq (n := 1) (by omega) hl hp).1

theorem num2_eq (hl : l.length ≤ 1000000) {p : Nat × Int} (hp : p.1 ≤ l.length) (b : Int) :
    F49 (((), 2, b, ()), ((l, (p.1 : Int), p.2, y, m, d, s, z, q, ()), ())) = some ((nn b 2 l p).1, ((l, ((nn b 2 l p).2.1 : Int), (nn b 2 l p).2.2, y, m, d, s, z, q, ()), ())) := (F49_eq (n := 2) (by omega) hl hp).1

theorem num4_eq (hl : l.length ≤ 1000000) {p : Nat × Int} (hp : p.1 ≤ l.length) (b : Int) :
    F49 (((), 4, b, ()), ((l, (p.1 : Int), p.2, y, m, d, s, z, q, ()), ())) = some ((nn b 4 l p).1, ((l, ((nn b 4 l p).2.1 : Int), (nn b 4 l p).2.2, y, m, d, s, z, q, ()), ())) := (F49_eq (n := 4) (by omega) hl hp).1

theorem nm_le {b : Int} : ∀ (j : Nat) {v : Int} {a : Nat} {w : Int}, a ≤ l.length → (nm b l j v a w).2.1 ≤ l.length
  | 0, _, _, _, h => h
  | j + 1, _, _, _, h => nm_le j (tk_le _ h)

theorem nn_le {b : Int} {n : Nat} {p : Nat × Int} (h : p.1 ≤ l.length) : (nn b n l p).2.1 ≤ l.length := nm_le n h

theorem wd_le {names : Ls} : ∀ (f : Nat) {k : Nat} {got : List UInt8} {a : Nat} {w : Int}, a ≤ l.length → (wd names l f k got a w).2.1 ≤ l.length
  | 0, _, _, _, _, h => h
  | f + 1, k, got, a, w, h => by
    simp only [wd]
    split
    · exact h
    · split
      · exact tk_le _ h
      · exact wd_le f (tk_le _ h)

theorem ww_le {names : Ls} {p : Nat × Int} (h : p.1 ≤ l.length) : (ww names l p).2.1 ≤ l.length := wd_le 5 h

theorem word_eq {names : Ls} (hN : Nms names) (hl : l.length ≤ 1000000) (hlc : ∀ x ∈ l, x.length ≤ 4) {p : Nat × Int} (hp : p.1 ≤ l.length) :
    F46 (((), names, ()), ((l, (p.1 : Int), p.2, y, m, d, s, z, q, ()), ())) = some ((ww names l p).1, ((l, ((ww names l p).2.1 : Int), (ww names l p).2.2, y, m, d, s, z, q, ()), ())) := (F46_eq hN hl hp hlc).1

/-- A time of a day. -/
def hmsS (may : Bool) (l : Ls) (p : Nat × Int) : Int × Nat × Int :=
  let h := nn 24 2 l p
  let n := nn 60 2 l (sg [58] l h.2)
  if may = true ∧ peek l n.2.1 ≠ [58] then (3600 * h.1 + 60 * n.1, n.2)
  else
    let e := nn 60 2 l (sg [58] l n.2)
    (3600 * h.1 + 60 * n.1 + e.1, e.2)

theorem hms_eq (hl : l.length ≤ 1000000) {p : Nat × Int} (hp : p.1 ≤ l.length) (may : Bool) :
    F50 (((), may, ()), ((l, (p.1 : Int), p.2, y, m, d, s, z, q, ()), ())) = some ((), ((l, ((hmsS may l p).2.1 : Int), (hmsS may l p).2.2, y, m, d, (hmsS may l p).1, z, q, ()), ())) := by
  have h1 := nn_le (l := l) (b := 24) (n := 2) hp
  have h2 := sg_le (c := [58]) h1
  have h3 := nn_le (l := l) (b := 60) (n := 2) h2
  have h4 := sg_le (c := [58]) h3
  have b1 := nm2 (l := l) (b := 24) (a := p.1) (w := p.2)
  have b2 := nm2 (l := l) (b := 60) (a := (sg [58] l (nn 24 2 l p).2).1) (w := (sg [58] l (nn 24 2 l p).2).2)
  have b3 := nm2 (l := l) (b := 60) (a := (sg [58] l (nn 60 2 l (sg [58] l (nn 24 2 l p).2)).2).1) (w := (sg [58] l (nn 60 2 l (sg [58] l (nn 24 2 l p).2)).2).2)
  change 0 ≤ (nn 24 2 l p).1 ∧ (nn 24 2 l p).1 ≤ 99 at b1
  change 0 ≤ (nn 60 2 l (sg [58] l (nn 24 2 l p).2)).1 ∧ (nn 60 2 l (sg [58] l (nn 24 2 l p).2)).1 ≤ 99 at b2
  change 0 ≤ (nn 60 2 l (sg [58] l (nn 60 2 l (sg [58] l (nn 24 2 l p).2)).2)).1 ∧ (nn 60 2 l (sg [58] l (nn 60 2 l (sg [58] l (nn 24 2 l p).2)).2)).1 ≤ 99 at b3
  have w1 : w64 (3600 * (nn 24 2 l p).1) = 3600 * (nn 24 2 l p).1 := w64_id (by omega) (by omega)
  have w2 : w64 (60 * (nn 60 2 l (sg [58] l (nn 24 2 l p).2)).1) = 60 * (nn 60 2 l (sg [58] l (nn 24 2 l p).2)).1 := w64_id (by omega) (by omega)
  have w3 : w64 (3600 * (nn 24 2 l p).1 + 60 * (nn 60 2 l (sg [58] l (nn 24 2 l p).2)).1) = 3600 * (nn 24 2 l p).1 + 60 * (nn 60 2 l (sg [58] l (nn 24 2 l p).2)).1 := w64_id (by omega) (by omega)
  have w4 : w64 (3600 * (nn 24 2 l p).1 + 60 * (nn 60 2 l (sg [58] l (nn 24 2 l p).2)).1 + (nn 60 2 l (sg [58] l (nn 60 2 l (sg [58] l (nn 24 2 l p).2)).2)).1) =
    3600 * (nn 24 2 l p).1 + 60 * (nn 60 2 l (sg [58] l (nn 24 2 l p).2)).1 + (nn 60 2 l (sg [58] l (nn 60 2 l (sg [58] l (nn 24 2 l p).2)).2)).1 := w64_id (by omega) (by omega)
  unfold hmsS
  cases may with
  | false =>
    rw [if_neg (by simp)]
    simp only [F50, num2_eq hl hp, Option.bind_some, sign_eq hl h1, num2_eq hl h2, cond_false, w1, w2, w3, sign_eq hl h3, num2_eq hl h4, decide_true, cond_true, w4]
  | true =>
    by_cases hc : peek l (nn 60 2 l (sg [58] l (nn 24 2 l p).2)).2.1 = [58]
    · rw [if_neg (fun h => h.2 hc)]
      have c1 := decide_eq_true hc
      simp only [F50, num2_eq hl hp, Option.bind_some, sign_eq hl h1, num2_eq hl h2, cond_true, w1, w2, w3, F45_eq, c1, Bool.not_true, cond_false, sign_eq hl h3, num2_eq hl h4, decide_true, w4]
    · rw [if_pos ⟨rfl, hc⟩]
      have c1 := decide_eq_false hc
      simp only [F50, num2_eq hl hp, Option.bind_some, sign_eq hl h1, num2_eq hl h2, cond_true, w1, w2, w3, F45_eq, c1, Bool.not_false]

/-- A zone. -/
def offS (l : Ls) (p : Nat × Int) : Int × Nat × Int :=
  let c := tk (fun x => decide (x = [43]) || decide (x = [45])) l p.1 p.2
  let h := nn 24 2 l c.2
  let n := nn 60 2 l h.2
  (if c.1 = [45] then -(60 * h.1 + n.1) else 60 * h.1 + n.1, n.2)

theorem off_eq (hl : l.length ≤ 1000000) {p : Nat × Int} (hp : p.1 ≤ l.length) :
    F51 (((), ()), ((l, (p.1 : Int), p.2, y, m, d, s, z, q, ()), ())) = some ((), ((l, ((offS l p).2.1 : Int), (offS l p).2.2, y, m, d, s, (offS l p).1, q, ()), ())) := by
  have key : ∀ c : List UInt8 × Nat × Int, c.2.1 ≤ l.length → ∀ r, (w64 (w64 (60 * (nn 24 2 l c.2).1) + (nn 60 2 l (nn 24 2 l c.2).2).1) = 60 * (nn 24 2 l c.2).1 + (nn 60 2 l (nn 24 2 l c.2).2).1 →
      w64 (0 - (60 * (nn 24 2 l c.2).1 + (nn 60 2 l (nn 24 2 l c.2).2).1)) = -(60 * (nn 24 2 l c.2).1 + (nn 60 2 l (nn 24 2 l c.2).2).1) → (nn 24 2 l c.2).2.1 ≤ l.length → r) → r := by
    intro c hc r h
    have b1 := nm2 (l := l) (b := 24) (a := c.2.1) (w := c.2.2)
    have b2 := nm2 (l := l) (b := 60) (a := (nn 24 2 l c.2).2.1) (w := (nn 24 2 l c.2).2.2)
    change 0 ≤ (nn 24 2 l c.2).1 ∧ (nn 24 2 l c.2).1 ≤ 99 at b1
    change 0 ≤ (nn 60 2 l (nn 24 2 l c.2).2).1 ∧ (nn 60 2 l (nn 24 2 l c.2).2).1 ≤ 99 at b2
    refine h ?_ ?_ (nn_le hc)
    · rw [w64_id (n := 60 * (nn 24 2 l c.2).1) (by omega) (by omega), w64_id (by omega) (by omega)]
    · rw [w64_id (by omega) (by omega)]; omega
  unfold offS
  simp only
  generalize hc : tk (fun x => decide (x = [43]) || decide (x = [45])) l p.1 p.2 = c
  have hcl : c.2.1 ≤ l.length := by rw [← hc]; exact tk_le _ hp
  refine key c hcl _ fun w1 w2 h1 => ?_
  have wa : w64 ((p.1 : Int) + 1) = ((p.1 + 1 : Nat) : Int) := by rw [w64_id (by omega) (by omega)]; rfl
  obtain ⟨pa, pw⟩ := p
  simp only at hc wa hp ⊢
  by_cases h : pw = 0 ∧ peek l pa ≠ []
  · obtain ⟨rfl, hne⟩ := h
    have c3 : decide (peek l pa = []) = false := decide_eq_false hne
    by_cases h2 : (decide (peek l pa = [43]) || decide (peek l pa = [45])) = true
    · rw [tk_yes rfl hne h2] at hc
      subst hc
      simp only [F51, F45_eq, Option.bind_some, decide_true, Bool.not_true, Bool.false_or, c3, Bool.not_false, cond_true, h2, cond_false, wa]
      have e1 := num2_eq (y := y) (m := m) (d := d) (s := s) (z := z) (q := q) hl (p := (pa + 1, (0 : Int))) hcl 24
      simp only at e1
      rw [e1]
      simp only [Option.bind_some, num2_eq hl h1, w1]
      by_cases h3 : peek l pa = [45]
      · simp only [decide_eq_true h3, cond_true, w2, if_pos h3]
      · simp only [decide_eq_false h3, cond_false, if_neg h3]
    · have h2' : (decide (peek l pa = [43]) || decide (peek l pa = [45])) = false := by simpa using h2
      rw [tk_no (fun hh => h2 hh.2.2)] at hc
      subst hc
      simp only [F51, F45_eq, Option.bind_some, decide_true, Bool.not_true, Bool.false_or, c3, Bool.not_false, cond_true, h2', F62_eq]
      have e1 := num2_eq (y := y) (m := m) (d := d) (s := s) (z := z) (q := q) hl (p := (pa, stopw l pa 0)) hcl 24
      simp only at e1
      rw [e1]
      simp only [Option.bind_some, num2_eq hl h1, w1]
      rfl
  · have c1 : (!((!decide (pw = 0)) || decide (peek l pa = []))) = false := by
      by_cases h1 : pw = 0
      · have : peek l pa = [] := Classical.byContradiction fun h2 => h ⟨h1, h2⟩
        simp [h1, this]
      · simp [h1]
    rw [tk_no (fun hh => h ⟨hh.1, hh.2.1⟩)] at hc
    subst hc
    simp only [F51, F45_eq, Option.bind_some, c1, cond_false, F62_eq]
    have e1 := num2_eq (y := y) (m := m) (d := d) (s := s) (z := z) (q := q) hl (p := (pa, stopw l pa pw)) hcl 24
    simp only at e1
    rw [e1]
    simp only [Option.bind_some, num2_eq hl h1, w1]
    rfl

/-- A number of one digit, or two. -/
def n12S (l : Ls) (p : Nat × Int) : Int × Nat × Int :=
  let v := nn 10 1 l p
  if isdig (peek l v.2.1) = true then
    let u := nn 10 1 l v.2
    (v.1 * 10 + u.1, u.2)
  else v

theorem n12_eq (hl : l.length ≤ 1000000) {p : Nat × Int} (hp : p.1 ≤ l.length) :
    F48 (((), ()), ((l, (p.1 : Int), p.2, y, m, d, s, z, q, ()), ())) = some ((n12S l p).1, ((l, ((n12S l p).2.1 : Int), (n12S l p).2.2, y, m, d, s, z, q, ()), ())) := by
  have h1 := nn_le (l := l) (b := 10) (n := 1) hp
  have b1 := nm1 (l := l) (b := 10) (a := p.1) (w := p.2)
  have b2 := nm1 (l := l) (b := 10) (a := (nn 10 1 l p).2.1) (w := (nn 10 1 l p).2.2)
  change 0 ≤ (nn 10 1 l p).1 ∧ (nn 10 1 l p).1 ≤ 9 at b1
  change 0 ≤ (nn 10 1 l (nn 10 1 l p).2).1 ∧ (nn 10 1 l (nn 10 1 l p).2).1 ≤ 9 at b2
  have w1 : w64 ((nn 10 1 l p).1 * 10) = (nn 10 1 l p).1 * 10 := w64_id (by omega) (by omega)
  have w2 : w64 ((nn 10 1 l p).1 * 10 + (nn 10 1 l (nn 10 1 l p).2).1) = (nn 10 1 l p).1 * 10 + (nn 10 1 l (nn 10 1 l p).2).1 := w64_id (by omega) (by omega)
  unfold n12S
  cases hd : isdig (peek l (nn 10 1 l p).2.1) with
  | true =>
    simp only [F48, num1_eq hl hp, Option.bind_some, F45_eq, F44_eq, hd, cond_true, num1_eq hl h1, w1, w2, if_true]
  | false =>
    simp only [F48, num1_eq hl hp, Option.bind_some, F45_eq, F44_eq, hd, cond_false, Bool.false_eq_true, if_false]

theorem hms_le {may : Bool} {p : Nat × Int} (h : p.1 ≤ l.length) : (hmsS may l p).2.1 ≤ l.length := by
  have h1 := nn_le (l := l) (b := 60) (n := 2) (sg_le (c := [58]) (nn_le (l := l) (b := 24) (n := 2) h))
  unfold hmsS
  simp only
  split
  · exact h1
  · exact nn_le (sg_le h1)

theorem off_le {p : Nat × Int} (h : p.1 ≤ l.length) : (offS l p).2.1 ≤ l.length := nn_le (nn_le (tk_le _ h))

theorem n12_le {p : Nat × Int} (h : p.1 ≤ l.length) : (n12S l p).2.1 ≤ l.length := by
  unfold n12S
  simp only
  split
  · exact nn_le (nn_le h)
  · exact nn_le h

end Go.Dt

namespace Go.Dt
open Go Go.Ev
set_option maxRecDepth 100000

def sing (s : List UInt8) : Ls := s.map fun b => [b]

/-- What is ahead of a place. -/
def At (l : Ls) (a : Nat) (r : List UInt8) : Prop := l.drop a = sing r

variable {l : Ls} {a : Nat} {r : List UInt8} {b : UInt8}

theorem At.peek (h : At l a (b :: r)) : peek l a = [b] := by
  have h' : l.drop a = [b] :: sing r := h
  have hlt : a < l.length := by
    have := congrArg List.length h'
    rw [List.length_drop, List.length_cons] at this
    omega
  rw [List.drop_eq_getElem_cons hlt] at h'
  have := (List.cons.inj h').1
  show l.getD a [] = [b]
  rw [getD_ltL hlt, this]

theorem At.next (h : At l a (b :: r)) : At l (a + 1) r := by
  have h' : l.drop a = [b] :: sing r := h
  show l.drop (a + 1) = _
  rw [← List.drop_drop, h']
  rfl

theorem At.end (h : At l a []) : l.length ≤ a := by
  have h' : l.drop a = [] := h
  have := congrArg List.length h'
  rw [List.length_drop] at this
  simpa using Nat.le_of_sub_eq_zero this

theorem At.tk {f : List UInt8 → Bool} (h : At l a (b :: r)) (hf : f [b] = true) : tk f l a 0 = ([b], a + 1, 0) := by
  have hp := h.peek
  rw [tk_yes rfl (by rw [hp]; simp) (by rw [hp]; exact hf), hp]

theorem At.sg (h : At l a (b :: r)) : sg [b] l (a, 0) = (a + 1, 0) := by
  unfold Go.Dt.sg
  rw [h.tk (by simp)]

/-- A digit's letter. -/
def dgt (n : Int) : UInt8 := UInt8.ofNat (48 + n.toNat)

theorem dgt_is {n : Int} (h : 0 ≤ n) (h2 : n ≤ 9) : isdig [dgt n] = true ∧ dval [dgt n] = n := by
  have hn : n = 0 ∨ n = 1 ∨ n = 2 ∨ n = 3 ∨ n = 4 ∨ n = 5 ∨ n = 6 ∨ n = 7 ∨ n = 8 ∨ n = 9 := by omega
  rcases hn with rfl | rfl | rfl | rfl | rfl | rfl | rfl | rfl | rfl | rfl <;> exact ⟨by decide, by decide⟩

theorem dgt_small {n : Int} (h : 0 ≤ n) (h2 : n ≤ 9) : (dgt n).toNat < 128 := by
  have hn : n = 0 ∨ n = 1 ∨ n = 2 ∨ n = 3 ∨ n = 4 ∨ n = 5 ∨ n = 6 ∨ n = 7 ∨ n = 8 ∨ n = 9 := by omega
  rcases hn with rfl | rfl | rfl | rfl | rfl | rfl | rfl | rfl | rfl | rfl <;> decide

theorem nm_step {bb : Int} {j : Nat} {v n : Int} (hn : 0 ≤ n) (hn2 : n ≤ 9) (h : At l a (dgt n :: r)) (hb : (v * 10 + n) * 10 ^ j < bb) : nm bb l (j + 1) v a 0 = nm bb l j (v * 10 + n) (a + 1) 0 := by
  obtain ⟨h1, h2⟩ := dgt_is hn hn2
  have ht : Go.Dt.tk (fun c => isdig c && decide ((v * 10 + dval c) * 10 ^ j < bb)) l a 0 = ([dgt n], a + 1, 0) := h.tk (by simp only [h1, h2, Bool.true_and]; exact decide_eq_true hb)
  simp only [nm, ht, h2]
  rw [if_neg (by simp)]

theorem At.nn1 {bb n : Int} (h : At l a (dgt n :: r)) (hn : 0 ≤ n) (hn2 : n ≤ 9) (hb : n < bb) : nn bb 1 l (a, 0) = (n, a + 1, 0) := by
  unfold nn
  simp only
  rw [nm_step hn hn2 h (by simpa using hb)]
  simp [nm]

theorem At.nn2 {bb x y : Int} (h : At l a (dgt x :: dgt y :: r)) (hx : 0 ≤ x) (hx2 : x ≤ 9) (hy : 0 ≤ y) (hy2 : y ≤ 9) (hb : x * 10 + y < bb) : nn bb 2 l (a, 0) = (x * 10 + y, a + 2, 0) := by
  unfold nn
  simp only
  rw [nm_step hx hx2 h (by simp; omega), nm_step hy hy2 h.next (by simp; omega)]
  simp [nm]

theorem At.nn4 {bb x y z u : Int} (h : At l a (dgt x :: dgt y :: dgt z :: dgt u :: r)) (hx : 0 ≤ x) (hx2 : x ≤ 9) (hy : 0 ≤ y) (hy2 : y ≤ 9) (hz : 0 ≤ z) (hz2 : z ≤ 9) (hu : 0 ≤ u) (hu2 : u ≤ 9) (hb : x * 1000 + y * 100 + z * 10 + u < bb) :
    nn bb 4 l (a, 0) = (x * 1000 + y * 100 + z * 10 + u, a + 4, 0) := by
  unfold nn
  simp only
  rw [nm_step hx hx2 h (by simp; omega), nm_step hy hy2 h.next (by simp; omega), nm_step hz hz2 h.next.next (by simp; omega), nm_step hu hu2 h.next.next.next (by simp; omega)]
  simp only [nm, Prod.mk.injEq, and_true]
  omega

def weeks : Ls := [[77, 111, 110], [84, 117, 101], [87, 101, 100], [84, 104, 117], [70, 114, 105], [83, 97, 116], [83, 117, 110]]
def months : Ls := [[74, 97, 110], [70, 101, 98], [77, 97, 114], [65, 112, 114], [77, 97, 121], [74, 117, 110], [74, 117, 108], [65, 117, 103], [83, 101, 112], [79, 99, 116], [78, 111, 118], [68, 101, 99]]

theorem weeks_nms : Nms weeks := ⟨by decide, by decide⟩
theorem months_nms : Nms months := ⟨by decide, by decide⟩

theorem ww_three {names : Ls} {x y z : UInt8} {i : Nat} (h : At l a (x :: y :: z :: r)) (h0 : hit names 0 [] = none) (g0 : goes names 0 [] [x] = true) (h1 : hit names 1 [x] = none) (g1 : goes names 1 [x] [y] = true)
    (h2 : hit names 2 [x, y] = none) (g2 : goes names 2 [x, y] [z] = true) (h3 : hit names 3 [x, y, z] = some i) : ww names l (a, 0) = ((i : Int), a + 3, 0) := by
  unfold ww
  simp only [wd, h0, h.tk g0, List.nil_append, Nat.zero_add]
  rw [if_neg (by simp)]
  simp only [h1, h.next.tk g1, List.cons_append, List.nil_append]
  rw [if_neg (by simp)]
  simp only [h2, h.next.next.tk g2, List.cons_append, List.nil_append]
  rw [if_neg (by simp)]
  simp only [h3]

theorem week_ok {k : Int} (h0 : 0 ≤ k) (h6 : k ≤ 6) : ∃ x y z : UInt8, List.getD weeks k.toNat [] = [x, y, z] ∧ isdig [x] = false ∧ x.toNat < 128 ∧ y.toNat < 128 ∧ z.toNat < 128 ∧ ∀ l a r, At l a (x :: y :: z :: r) → ww weeks l (a, 0) = (k, a + 3, 0) := by
  have hk : k = 0 ∨ k = 1 ∨ k = 2 ∨ k = 3 ∨ k = 4 ∨ k = 5 ∨ k = 6 := by omega
  rcases hk with rfl | rfl | rfl | rfl | rfl | rfl | rfl <;>
    exact ⟨_, _, _, rfl, by decide, by decide, by decide, by decide, fun l a r h => ww_three h (by decide) (by decide) (by decide) (by decide) (by decide) (by decide) (by decide)⟩

theorem month_ok {k : Int} (h0 : 0 ≤ k) (h6 : k ≤ 11) : ∃ x y z : UInt8, List.getD months k.toNat [] = [x, y, z] ∧ x.toNat < 128 ∧ y.toNat < 128 ∧ z.toNat < 128 ∧ ∀ l a r, At l a (x :: y :: z :: r) → ww months l (a, 0) = (k, a + 3, 0) := by
  have hk : k = 0 ∨ k = 1 ∨ k = 2 ∨ k = 3 ∨ k = 4 ∨ k = 5 ∨ k = 6 ∨ k = 7 ∨ k = 8 ∨ k = 9 ∨ k = 10 ∨ k = 11 := by omega
  rcases hk with rfl | rfl | rfl | rfl | rfl | rfl | rfl | rfl | rfl | rfl | rfl | rfl <;>
    exact ⟨_, _, _, rfl, by decide, by decide, by decide, fun l a r h => ww_three h (by decide) (by decide) (by decide) (by decide) (by decide) (by decide) (by decide)⟩

theorem u8_dgt {n : Int} (h : 0 ≤ n) (h2 : n ≤ 9) : u8of (w64 (48 + n)) = dgt n := by
  have hn : n = 0 ∨ n = 1 ∨ n = 2 ∨ n = 3 ∨ n = 4 ∨ n = 5 ∨ n = 6 ∨ n = 7 ∨ n = 8 ∨ n = 9 := by omega
  rcases hn with rfl | rfl | rfl | rfl | rfl | rfl | rfl | rfl | rfl | rfl <;> decide

theorem tdiv_n {v b : Int} (h : 0 ≤ v) (h2 : v ≤ 1000000) (hb : 0 < b) : w64 (v.tdiv b) = v / b := by
  rw [tdiv_nn h]
  have h3 : 0 ≤ v / b := Int.ediv_nonneg h (by omega)
  have h4 : v / b ≤ v := Int.ediv_le_self _ h
  exact w64_id (by omega) (by omega)

theorem dig2_eq {v : Int} (h : 0 ≤ v) (h2 : v ≤ 99) : F34 ((v, 2, ()), ()) = some ([dgt (v / 10), dgt (v % 10)], ()) := by
  have h0 : F34 ((v, 2, ()), ()) = some ([u8of (w64 (48 + Int.tmod (w64 (Int.tdiv v 10)) 10)), u8of (w64 (48 + Int.tmod v 10))], ()) := by
    show F34 _ = _
    kernel_rfl
  rw [h0, tdiv_n h (by omega) (by omega), Int.tmod_eq_emod_of_nonneg (by omega : (0 : Int) ≤ v / 10), Int.tmod_eq_emod_of_nonneg h, u8_dgt (by omega) (by omega), u8_dgt (by omega) (by omega), show v / 10 % 10 = v / 10 by omega]

theorem dig4_eq {v : Int} (h : 0 ≤ v) (h2 : v ≤ 9999) : F34 ((v, 4, ()), ()) = some ([dgt (v / 1000), dgt (v / 100 % 10), dgt (v / 10 % 10), dgt (v % 10)], ()) := by
  have h0 : F34 ((v, 4, ()), ()) = some ([u8of (w64 (48 + Int.tmod (w64 (Int.tdiv (w64 (Int.tdiv (w64 (Int.tdiv v 10)) 10)) 10)) 10)), u8of (w64 (48 + Int.tmod (w64 (Int.tdiv (w64 (Int.tdiv v 10)) 10)) 10)), u8of (w64 (48 + Int.tmod (w64 (Int.tdiv v 10)) 10)), u8of (w64 (48 + Int.tmod v 10))], ()) := by
    show F34 _ = _
    kernel_rfl
  rw [h0, tdiv_n h (by omega) (by omega), tdiv_n (v := v / 10) (by omega) (by omega) (by omega), tdiv_n (v := v / 10 / 10) (by omega) (by omega) (by omega), Int.tmod_eq_emod_of_nonneg (by omega : (0 : Int) ≤ v / 10 / 10 / 10), Int.tmod_eq_emod_of_nonneg (by omega : (0 : Int) ≤ v / 10 / 10),
    Int.tmod_eq_emod_of_nonneg (by omega : (0 : Int) ≤ v / 10), Int.tmod_eq_emod_of_nonneg h, u8_dgt (by omega) (by omega), u8_dgt (by omega) (by omega), u8_dgt (by omega) (by omega), u8_dgt (by omega) (by omega), show v / 10 / 10 / 10 % 10 = v / 1000 by omega, show v / 10 / 10 % 10 = v / 100 % 10 by omega]

/-- The text of a second of a day. -/
def clk (s : Int) : List UInt8 := [dgt (s / 3600 / 10), dgt (s / 3600 % 10), 58, dgt (s / 60 % 60 / 10), dgt (s / 60 % 60 % 10), 58, dgt (s % 60 / 10), dgt (s % 60 % 10)]

theorem clk_eq {s : Int} (h : 0 ≤ s) (h2 : s < 86400) : F35 ((s, ()), ()) = some (clk s, ()) := by
  simp only [F35, tdiv_n h (show s ≤ 1000000 by omega) (show (0 : Int) < 3600 by omega), tdiv_n h (show s ≤ 1000000 by omega) (show (0 : Int) < 60 by omega), Int.tmod_eq_emod_of_nonneg (show (0 : Int) ≤ s / 60 by omega), Int.tmod_eq_emod_of_nonneg h,
    dig2_eq (show 0 ≤ s / 3600 by omega) (show s / 3600 ≤ 99 by omega), dig2_eq (show 0 ≤ s / 60 % 60 by omega) (show s / 60 % 60 ≤ 99 by omega), dig2_eq (show 0 ≤ s % 60 by omega) (show s % 60 ≤ 99 by omega), Option.bind_some]
  simp (disch := (simp only [List.length_append, List.length_cons, List.length_nil]; omega)) only [fits_true, cond_true]
  rfl

/-- The text of a zone. -/
def zon (z : Int) : List UInt8 :=
  let n := if z < 0 then -z else z
  [if z < 0 then 45 else 43, dgt (n / 60 / 10), dgt (n / 60 % 10), dgt (n % 60 / 10), dgt (n % 60 % 10)]

theorem zon_eq {z : Int} (h : -1439 ≤ z) (h2 : z ≤ 1439) : F36 ((z, ()), ()) = some (zon z, ()) := by
  unfold zon
  by_cases hz : z < 0
  · have c1 := decide_eq_true hz
    have w1 : w64 (0 - z) = -z := by rw [w64_id (by omega) (by omega)]; omega
    simp only [F36, c1, cond_true, Option.bind_some, w1, if_pos hz, tdiv_n (show 0 ≤ -z by omega) (show -z ≤ 1000000 by omega) (show (0 : Int) < 60 by omega), Int.tmod_eq_emod_of_nonneg (show (0 : Int) ≤ -z by omega), dig2_eq (show 0 ≤ -z / 60 by omega) (show -z / 60 ≤ 99 by omega), dig2_eq (show 0 ≤ -z % 60 by omega) (show -z % 60 ≤ 99 by omega)]
    simp (disch := (simp only [List.length_append, List.length_cons, List.length_nil]; omega)) only [fits_true, cond_true]
    rfl
  · have c1 := decide_eq_false hz
    simp only [F36, c1, cond_false, Option.bind_some, if_neg hz, tdiv_n (show 0 ≤ z by omega) (show z ≤ 1000000 by omega) (show (0 : Int) < 60 by omega), Int.tmod_eq_emod_of_nonneg (show (0 : Int) ≤ z by omega), dig2_eq (show 0 ≤ z / 60 by omega) (show z / 60 ≤ 99 by omega), dig2_eq (show 0 ≤ z % 60 by omega) (show z % 60 ≤ 99 by omega)]
    simp (disch := (simp only [List.length_append, List.length_cons, List.length_nil]; omega)) only [fits_true, cond_true]
    rfl

theorem hms_ok {s : Int} (may : Bool) (h : 0 ≤ s) (h2 : s < 86400) (ha : At l a (clk s ++ r)) : hmsS may l (a, 0) = (s, a + 8, 0) ∧ At l (a + 8) r := by
  have e1 := At.nn2 (bb := 24) (x := s / 3600 / 10) (y := s / 3600 % 10) ha (by omega) (by omega) (by omega) (by omega) (by omega)
  have a1 := ha.next.next
  have e2 := At.sg a1
  have a2 := At.next a1
  have e3 := At.nn2 (bb := 60) (x := s / 60 % 60 / 10) (y := s / 60 % 60 % 10) a2 (by omega) (by omega) (by omega) (by omega) (by omega)
  have a3 := a2.next.next
  have e4 := At.sg a3
  have p4 := At.peek a3
  have a4 := At.next a3
  have e5 := At.nn2 (bb := 60) (x := s % 60 / 10) (y := s % 60 % 10) a4 (by omega) (by omega) (by omega) (by omega) (by omega)
  refine ⟨?_, a4.next.next⟩
  simp only [hmsS, e1, e2, e3, p4, e4, e5]
  rw [if_neg (by simp)]
  simp only [Prod.mk.injEq, and_true]
  omega

theorem off_ok {z : Int} (h : -1439 ≤ z) (h2 : z ≤ 1439) (ha : At l a (zon z ++ r)) : offS l (a, 0) = (z, a + 5, 0) ∧ At l (a + 5) r ∧ (peek l a = [43] ∨ peek l a = [45]) := by
  unfold zon at ha
  by_cases hz : z < 0
  · simp only [if_pos hz] at ha
    have e0 : tk (fun x => decide (x = [43]) || decide (x = [45])) l a 0 = ([45], a + 1, 0) := At.tk ha (by decide)
    have a1 := At.next ha
    have e1 := At.nn2 (bb := 24) a1 (by omega) (by omega) (by omega) (by omega) (by omega)
    have a2 := a1.next.next
    have e2 := At.nn2 (bb := 60) a2 (by omega) (by omega) (by omega) (by omega) (by omega)
    refine ⟨?_, a2.next.next, .inr (At.peek ha)⟩
    simp only [offS, e0, e1, e2, if_true, Prod.mk.injEq, and_true]
    omega
  · simp only [if_neg hz] at ha
    have e0 : tk (fun x => decide (x = [43]) || decide (x = [45])) l a 0 = ([43], a + 1, 0) := At.tk ha (by decide)
    have a1 := At.next ha
    have e1 := At.nn2 (bb := 24) a1 (by omega) (by omega) (by omega) (by omega) (by omega)
    have a2 := a1.next.next
    have e2 := At.nn2 (bb := 60) a2 (by omega) (by omega) (by omega) (by omega) (by omega)
    refine ⟨?_, a2.next.next, .inl (At.peek ha)⟩
    have hne : ¬ ([43] : List UInt8) = [45] := by decide
    simp only [offS, e0, e1, e2, if_neg hne, Prod.mk.injEq, and_true]
    omega

end Go.Dt
