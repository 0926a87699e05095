/- The reference's patterns. -/
import Derived.Test.YtbaocindligcmaaDoorQq1
namespace Go.Dt
open Go Go.Ev
set_option maxRecDepth 100000

/-- Does a letter stand for a sign? -/
def fitS (l : Ls) (i : Nat) (b : UInt8) : Bool :=
  if b = 57 then isdig (l.getD i [])
  else if b = 50 then isdig (l.getD i []) && decide (((l.getD i []).getD 0 0).toNat ≤ 50)
  else if b = 53 then isdig (l.getD i []) && decide (((l.getD i []).getD 0 0).toNat ≤ 53)
  else if b = 51 then isdig (l.getD i []) && (decide (((l.getD i []).getD 0 0).toNat ≤ 51) || !decide (l.getD (i - 1) [] = [50]))
  else if b = 77 ∨ b = 87 then letS l i b
  else if b = 71 ∨ b = 109 ∨ b = 84 ∨ b = 85 then decide (low (l.getD i []) = low [b])
  else decide (l.getD i [] = [b])

theorem F65_eq {l : Ls} (hg : Good l) (hl : l.length ≤ 2000000) {i : Nat} (hi : i < l.length) {b : UInt8} (h3 : b = 51 → 0 < i) : F65 ((l, (i : Int), b, ()), ()) = some (fitS l i b, ()) := by
  have c1 : (decide ((0 : Int) ≤ (i : Int)) && decide ((i : Int) < ((l.length : Nat) : Int))) = true := by
    rw [decide_eq_true (by omega : (0 : Int) ≤ (i : Int)), decide_eq_true (by omega : (i : Int) < ((l.length : Nat) : Int))]; rfl
  have hcm : l.getD i [] ∈ l := by rw [getD_ltL hi]; exact List.getElem_mem _
  have hne := hg.ne _ hcm
  have hle := hg.le _ hcm
  unfold fitS
  generalize hc : l.getD i [] = c at hne hle
  have hcp : 0 < c.length := List.length_pos_iff.2 hne
  have c2 : decide ((0 : Int) < ((c.length : Nat) : Int)) = true := decide_eq_true (by omega)
  have c4 : decide (((c.length : Nat) : Int) = 1) = decide (c.length = 1) := by rw [decide_eq_decide]; omega
  have hd : (decide (c.length = 1) && decide (UInt8.toNat (48 : UInt8) ≤ (c.getD 0 0).toNat) && decide ((c.getD 0 0).toNat ≤ UInt8.toNat (57 : UInt8))) = isdig c := rfl
  have l1 := F50_eq (s := c) (by omega)
  have l2 := F50_eq (s := [b]) (by simp)
  have start : F65 ((l, (i : Int), b, ()), ()) = F65 ((l, (i : Int), b, ()), ()) := rfl
  by_cases h57 : b = 57
  · subst h57
    simp only [F65, c1, cond_true, Int.toNat_natCast, hc, c2, Bool.true_or, c4, hd, Option.bind_some, decide_true, if_true]
  have n57 := decide_eq_false h57
  rw [if_neg h57]
  by_cases h50 : b = 50
  · subst h50
    simp only [F65, c1, cond_true, cond_false, Int.toNat_natCast, hc, c2, Bool.true_or, c4, hd, Option.bind_some, n57, decide_true, if_true]
    rfl
  have n50 := decide_eq_false h50
  rw [if_neg h50]
  by_cases h53 : b = 53
  · subst h53
    simp only [F65, c1, cond_true, cond_false, Int.toNat_natCast, hc, c2, Bool.true_or, c4, hd, Option.bind_some, n57, n50, decide_true, if_true]
    rfl
  have n53 := decide_eq_false h53
  rw [if_neg h53]
  by_cases h51 : b = 51
  · have hi0 := h3 h51
    subst h51
    have wi : w64 ((i : Int) - 1) = ((i - 1 : Nat) : Int) := (w64_id (by omega) (by omega)).trans (by omega)
    have c5 : decide ((0 : Int) ≤ ((i - 1 : Nat) : Int)) = true := decide_eq_true (by omega)
    have c6 : decide (((i - 1 : Nat) : Int) < ((l.length : Nat) : Int)) = true := decide_eq_true (by omega)
    simp only [F65, c1, cond_true, cond_false, Int.toNat_natCast, hc, c2, Bool.true_or, c4, hd, Option.bind_some, n57, n50, n53, wi, c5, c6, Bool.and_self, decide_true, if_true]
    rfl
  have n51 := decide_eq_false h51
  rw [if_neg h51]
  by_cases hmw : b = 77 ∨ b = 87
  · rw [if_pos hmw]
    have e := F68_eq hg hl hi b
    by_cases h77 : b = 77
    · have n77 := decide_eq_true h77
      simp only [F65, c1, cond_true, cond_false, Int.toNat_natCast, hc, c2, Bool.true_or, c4, hd, Option.bind_some, n57, n50, n53, n51, n77, e]
    · have n77 := decide_eq_false h77
      have n87 := decide_eq_true (hmw.resolve_left h77)
      simp only [F65, c1, cond_true, cond_false, Int.toNat_natCast, hc, c2, Bool.true_or, c4, hd, Option.bind_some, n57, n50, n53, n51, n77, n87, e]
  have n77 := decide_eq_false (fun h => hmw (.inl h) : ¬ b = 77)
  have n87 := decide_eq_false (fun h => hmw (.inr h) : ¬ b = 87)
  rw [if_neg hmw]
  by_cases hgm : b = 71 ∨ b = 109 ∨ b = 84 ∨ b = 85
  · rw [if_pos hgm]
    by_cases h71 : b = 71
    · have n71 := decide_eq_true h71
      simp only [F65, c1, cond_true, cond_false, Int.toNat_natCast, hc, c2, Bool.true_or, c4, hd, Option.bind_some, n57, n50, n53, n51, n77, n87, n71, l1, l2, agr_self]
    have n71 := decide_eq_false h71
    by_cases h109 : b = 109
    · have n109 := decide_eq_true h109
      simp only [F65, c1, cond_true, cond_false, Int.toNat_natCast, hc, c2, Bool.true_or, c4, hd, Option.bind_some, n57, n50, n53, n51, n77, n87, n71, n109, l1, l2, agr_self]
    have n109 := decide_eq_false h109
    by_cases h84 : b = 84
    · have n84 := decide_eq_true h84
      simp only [F65, c1, cond_true, cond_false, Int.toNat_natCast, hc, c2, Bool.true_or, c4, hd, Option.bind_some, n57, n50, n53, n51, n77, n87, n71, n109, n84, l1, l2, agr_self]
    have n84 := decide_eq_false h84
    have n85 : decide (b = 85) = true := decide_eq_true (by rcases hgm with h | h | h | h <;> first | exact absurd h h71 | exact absurd h h109 | exact absurd h h84 | exact h)
    simp only [F65, c1, cond_true, cond_false, Int.toNat_natCast, hc, c2, Bool.true_or, c4, hd, Option.bind_some, n57, n50, n53, n51, n77, n87, n71, n109, n84, n85, l1, l2, agr_self]
  · rw [if_neg hgm]
    have n71 := decide_eq_false (fun h => hgm (.inl h) : ¬ b = 71)
    have n109 := decide_eq_false (fun h => hgm (.inr (.inl h)) : ¬ b = 109)
    have n84 := decide_eq_false (fun h => hgm (.inr (.inr (.inl h))) : ¬ b = 84)
    have n85 := decide_eq_false (fun h => hgm (.inr (.inr (.inr h))) : ¬ b = 85)
    simp only [F65, c1, cond_true, cond_false, Int.toNat_natCast, hc, c2, Bool.true_or, c4, hd, Option.bind_some, n57, n50, n53, n51, n77, n87, n71, n109, n84, n85]

/-- How far a pattern goes. -/
def mt (l : Ls) : List UInt8 → Nat → Nat × Bool
  | [], a => (a, true)
  | b :: p, a => if a < l.length ∧ fitS l a b = true then mt l p (a + 1) else (a, false)

theorem mt_le (l : Ls) : ∀ (p : List UInt8) (a : Nat), a ≤ (mt l p a).1 ∧ (mt l p a).1 ≤ a + p.length
  | [], a => ⟨Nat.le_refl _, by simp [mt]⟩
  | b :: p, a => by
    unfold mt
    split
    · have := mt_le l p (a + 1); simp; omega
    · simp

theorem mt_true {l : Ls} : ∀ {p : List UInt8} {a : Nat}, (mt l p a).2 = true → (mt l p a).1 = a + p.length
  | [], a, _ => by simp [mt]
  | b :: p, a, h => by
    unfold mt at h ⊢
    split
    · next hc => rw [if_pos hc] at h; rw [mt_true h]; simp; omega
    · next hc => rw [if_neg hc] at h; cases h

theorem mt_false {l : Ls} : ∀ {p : List UInt8} {a : Nat}, (mt l p a).2 = false → (mt l p a).1 < a + p.length
  | [], a, h => by cases h
  | b :: p, a, h => by
    unfold mt at h ⊢
    split
    · next hc => rw [if_pos hc] at h; have := mt_false h; simp; omega
    · simp

theorem mt_append (l : Ls) : ∀ (p q : List UInt8) (a : Nat), mt l (p ++ q) a = if (mt l p a).2 = true then mt l q (a + p.length) else mt l p a
  | [], q, a => by simp [mt]
  | b :: p, q, a => by
    by_cases hc : a < l.length ∧ fitS l a b = true
    · have h1 : mt l (b :: p ++ q) a = mt l (p ++ q) (a + 1) := by simp only [List.cons_append, mt]; rw [if_pos hc]
      have h2 : mt l (b :: p) a = mt l p (a + 1) := by simp only [mt]; rw [if_pos hc]
      rw [h1, h2, mt_append l p q (a + 1), List.length_cons, show a + 1 + p.length = a + (p.length + 1) by omega]
    · have h1 : mt l (b :: p ++ q) a = (a, false) := by simp only [List.cons_append, mt]; rw [if_neg hc]
      have h2 : mt l (b :: p) a = (a, false) := by simp only [mt]; rw [if_neg hc]
      rw [h1, h2, if_neg (by simp)]

theorem mt_len {l : Ls} : ∀ {p : List UInt8} {a : Nat}, a ≤ l.length → (mt l p a).1 ≤ l.length
  | [], _, h => h
  | b :: p, a, h => by
    unfold mt
    split
    · next hc => exact mt_len hc.1
    · exact h

theorem F49_eq' {l : Ls} (hg : Good l) (hl : l.length ≤ 2000000) {p : List UInt8} (hp : p.length ≤ 100) (h3 : p.getD 0 0 ≠ 51) : F49 ((l, p, ()), ()) = some (((mt l p 0).1 : Int), ()) := by
  obtain ⟨r, h1, h2⟩ := loop_ind (f := B49_0) (fun s => ∃ (i : Nat), s = ((l, p, (i : Int), ()), ()) ∧ i ≤ p.length ∧ mt l (p.drop i) i = mt l p 0) (fun s => ((p.length : Int) - s.1.2.2.1).toNat) (fun r => r = ((((mt l p 0).1 : Int), ()), ()))
    (fun s ⟨i, hs, hi, hm⟩ => by
      subst hs
      by_cases hlt : i < p.length
      · have hd : p.drop i = p.getD i 0 :: p.drop (i + 1) := by rw [List.drop_eq_getElem_cons hlt, getD_lt hlt]
        rw [hd] at hm
        have c1 : decide ((0 : Int) ≤ (i : Int)) = true := decide_eq_true (by omega)
        have c2 : decide ((i : Int) < ((p.length : Nat) : Int)) = true := decide_eq_true (by omega)
        by_cases hll : i < l.length
        · have c3 : decide ((i : Int) < ((l.length : Nat) : Int)) = true := decide_eq_true (by omega)
          have wi : w64 ((i : Int) + 1) = ((i + 1 : Nat) : Int) := by rw [w64_id (by omega) (by omega)]; rfl
          have e := F65_eq hg hl hll (b := p.getD i 0) (fun h => by
            cases i with
            | zero => exact absurd h h3
            | succ i => omega)
          cases hf : fitS l i (p.getD i 0) with
          | true =>
            left
            simp only [mt] at hm
            rw [if_pos ⟨hll, hf⟩] at hm
            refine ⟨_, ?_, ⟨i + 1, rfl, by omega, hm⟩, by simp only; omega⟩
            simp only [B49_0, c1, c2, c3, Bool.and_self, Bool.true_or, cond_true, Int.toNat_natCast, e, Option.bind_some, hf, wi]
          | false =>
            right
            simp only [mt] at hm
            rw [if_neg (by rw [hf]; simp)] at hm
            exact ⟨_, by simp only [B49_0, c1, c2, c3, Bool.and_self, Bool.true_or, cond_true, cond_false, Int.toNat_natCast, e, Option.bind_some, hf] <;> rfl, by rw [← hm]⟩
        · right
          have c3 : decide ((i : Int) < ((l.length : Nat) : Int)) = false := decide_eq_false (by omega)
          simp only [mt] at hm
          rw [if_neg (fun h => hll h.1)] at hm
          exact ⟨_, by simp only [B49_0, c1, c2, c3, Bool.and_self, Bool.true_or, Bool.false_and, cond_true, cond_false] <;> rfl, by rw [← hm]⟩
      · right
        have c2 : decide ((i : Int) < ((p.length : Nat) : Int)) = false := decide_eq_false (by omega)
        rw [List.drop_of_length_le (by omega)] at hm
        simp only [mt] at hm
        exact ⟨_, by simp only [B49_0, c2, Bool.and_false, Bool.not_false, Bool.or_true, cond_true, cond_false] <;> rfl, by rw [← hm]⟩)
    (p := ((l, p, 0, ()), ())) ⟨0, rfl, Nat.zero_le _, rfl⟩ (by unfold FUEL; simp only; omega)
  subst h2
  have h1' : L49_0 ((l, p, 0, ()), ()) = some ((((mt l p 0).1 : Int), ()), ()) := h1
  simp only [F49, h1', Option.bind_some]

/-- a pattern that the letters are, whole -/
def full (l : Ls) (p : List UInt8) : Bool := decide ((mt l p 0).1 = l.length) && decide ((mt l p 0).1 = p.length)

def bst (l : Ls) : Ls → Nat → Nat → Int × Nat
  | [], _, far => (-1, far)
  | p :: r, k, far => if full l p = true then ((k : Int), (mt l p 0).1) else bst l r (k + 1) (if far < (mt l p 0).1 then (mt l p 0).1 else far)

theorem F25_eq' {l : Ls} (hg : Good l) (hl : l.length ≤ 2000000) {all : Ls} (ha : all.length ≤ 1000) (hp : ∀ p ∈ all, p.length ≤ 100 ∧ p.getD 0 0 ≠ 51) :
    F25 ((l, all, ()), ()) = some (((bst l all 0 0).1, ((bst l all 0 0).2 : Int), ()), ()) := by
  generalize hT : bst l all 0 0 = T
  obtain ⟨r, h1, h2⟩ := loop_ind (f := B25_0) (fun s => ∃ (i far : Nat), s = ((l, all, (far : Int), (i : Int), ()), ()) ∧ i ≤ all.length ∧ bst l (all.drop i) i far = T) (fun s => ((all.length : Int) - s.1.2.2.2.1).toNat)
    (fun r => (∃ far : Nat, r = Sum.inl (((far : Int), ()), ()) ∧ T = (-1, far)) ∨ r = Sum.inr ((T.1, (T.2 : Int), ()), ()))
    (fun s ⟨i, far, hs, hi, hb⟩ => by
      subst hs
      by_cases hlt : i < all.length
      · have hd : all.drop i = all.getD i [] :: all.drop (i + 1) := by rw [List.drop_eq_getElem_cons hlt, getD_ltL hlt]
        have hm : all.getD i [] ∈ all := by rw [getD_ltL hlt]; exact List.getElem_mem _
        rw [hd] at hb
        simp only [bst] at hb
        have c1 : decide ((i : Int) < ((all.length : Nat) : Int)) = true := decide_eq_true (by omega)
        have c2 : decide ((0 : Int) ≤ (i : Int)) = true := decide_eq_true (by omega)
        have wi : w64 ((i : Int) + 1) = ((i + 1 : Nat) : Int) := by rw [w64_id (by omega) (by omega)]; rfl
        have e := F49_eq' hg hl (hp _ hm).1 (hp _ hm).2
        have cf : (decide ((((mt l (all.getD i []) 0).1 : Nat) : Int) = ((l.length : Nat) : Int)) && decide ((((mt l (all.getD i []) 0).1 : Nat) : Int) = (((all.getD i []).length : Nat) : Int))) = full l (all.getD i []) := by
          unfold full
          congr 1
          · rw [decide_eq_decide]; omega
          · rw [decide_eq_decide]; omega
        cases hf : full l (all.getD i []) with
        | true =>
          right
          rw [hf] at cf
          rw [hf, if_pos rfl] at hb
          refine ⟨_, ?_, .inr rfl⟩
          rw [← hb]
          simp only [B25_0, c1, c2, Bool.and_self, cond_true, Int.toNat_natCast, e, Option.bind_some, Bool.true_or, cf]
        | false =>
          left
          rw [hf] at cf
          rw [hf, if_neg (by simp)] at hb
          by_cases hfar : far < (mt l (all.getD i []) 0).1
          · rw [if_pos hfar] at hb
            have c3 : decide ((far : Int) < (((mt l (all.getD i []) 0).1 : Nat) : Int)) = true := decide_eq_true (by omega)
            refine ⟨_, ?_, ⟨i + 1, _, rfl, by omega, hb⟩, by simp only; omega⟩
            simp only [B25_0, c1, c2, Bool.and_self, cond_true, cond_false, Int.toNat_natCast, e, Option.bind_some, Bool.true_or, cf, c3, wi]
          · rw [if_neg hfar] at hb
            have c3 : decide ((far : Int) < (((mt l (all.getD i []) 0).1 : Nat) : Int)) = false := decide_eq_false (by omega)
            refine ⟨_, ?_, ⟨i + 1, _, rfl, by omega, hb⟩, by simp only; omega⟩
            simp only [B25_0, c1, c2, Bool.and_self, cond_true, cond_false, Int.toNat_natCast, e, Option.bind_some, Bool.true_or, cf, c3, wi]
      · right
        have c1 : decide ((i : Int) < ((all.length : Nat) : Int)) = false := decide_eq_false (by omega)
        rw [List.drop_of_length_le (by omega)] at hb
        simp only [bst] at hb
        exact ⟨_, by simp only [B25_0, c1, cond_false] <;> rfl, .inl ⟨far, rfl, hb.symm⟩⟩)
    (p := ((l, all, 0, 0, ()), ())) ⟨0, 0, rfl, Nat.zero_le _, hT⟩ (by unfold FUEL; simp only; omega)
  rcases h2 with ⟨far, rfl, hTf⟩ | rfl
  · have h1' : L25_0 ((l, all, 0, 0, ()), ()) = some (Sum.inl (((far : Int), ()), ())) := h1
    simp only [F25, h1', Option.bind_some, hTf]
  · have h1' : L25_0 ((l, all, 0, 0, ()), ()) = some (Sum.inr ((T.1, (T.2 : Int), ()), ())) := h1
    simp only [F25, h1', Option.bind_some]

/-- The best pattern: one that no other one goes further than, and no other one is whole. -/
theorem bst_of {l : Ls} : ∀ {all : Ls} {k far : Nat} {q : List UInt8} {kq : Nat}, (hq : all[kq]? = some q) → (∀ p ∈ all, (mt l p 0).1 ≤ (mt l q 0).1) → (∀ i p, all[i]? = some p → full l p = true → i = kq) → far ≤ (mt l q 0).1 →
    bst l all k far = if full l q = true then (((k + kq : Nat) : Int), (mt l q 0).1) else (-1, (mt l q 0).1)
  | [], k, far, q, kq, hq, _, _, _ => by simp at hq
  | p :: r, k, far, q, kq, hq, hle, huniq, hfar => by
    simp only [bst]
    cases hfp : full l p with
    | true =>
      have hk := huniq 0 p (by simp) hfp
      subst hk
      simp only [List.getElem?_cons_zero, Option.some.injEq] at hq
      subst hq
      rw [if_pos rfl, if_pos hfp]; rfl
    | false =>
      rw [if_neg (by simp)]
      have hp1 := hle p (by simp)
      have hfar' : (if far < (mt l p 0).1 then (mt l p 0).1 else far) ≤ (mt l q 0).1 := by split <;> omega
      cases kq with
      | succ kq =>
        rw [bst_of (all := r) (k := k + 1) (kq := kq) (q := q) (by simpa using hq) (fun p hp => hle p (List.mem_cons_of_mem _ hp)) (fun i p hi hf => by have := huniq (i + 1) p (by simpa using hi) hf; omega) hfar']
        rw [show k + 1 + kq = k + (kq + 1) by omega]
      | zero =>
        simp only [List.getElem?_cons_zero, Option.some.injEq] at hq
        subst hq
        -- the others are not whole, and no further
        have hpp : (if far < (mt l p 0).1 then (mt l p 0).1 else far) = (mt l p 0).1 := by split <;> omega
        rw [hpp, hfp]
        simp only [Bool.false_eq_true, if_false]
        have hno : ∀ i p', r[i]? = some p' → full l p' = true → False := fun i p' hi hf => by have := huniq (i + 1) p' (by simpa using hi) hf; omega
        have hle' : ∀ p' ∈ r, (mt l p' 0).1 ≤ (mt l p 0).1 := fun p' hp' => hle p' (List.mem_cons_of_mem _ hp')
        clear hle huniq hp1 hfar hfar' hpp
        generalize (mt l p 0).1 = m at hle' ⊢
        clear hfp
        induction r generalizing k with
        | nil => rfl
        | cons x r ih =>
          simp only [bst]
          have hx : full l x = false := by
            cases hx : full l x
            · rfl
            · exact (hno 0 x (by simp) hx).elim
          rw [hx, if_neg (by simp)]
          have hxm := hle' x (by simp)
          rw [if_neg (by omega)]
          exact ih (k := k + 1) (fun i p' hi hf => hno (i + 1) p' (by simpa using hi) hf) fun p' hp' => hle' p' (List.mem_cons_of_mem _ hp')

end Go.Dt

namespace Go.Dt
open Go Go.Ev
set_option maxRecDepth 100000

variable {l : Ls} {a : Nat}

/-- A reader's place behind a pattern. -/
def st (l : Ls) (r : Nat × Bool) : Nat × Int := (r.1, if r.2 = true then 0 else if r.1 = l.length then 3 else 4)

theorem st_zero {l : Ls} {r : Nat × Bool} (h : (st l r).2 = 0) : r.2 = true := by
  unfold st at h
  cases hr : r.2
  · rw [hr] at h
    simp only [Bool.false_eq_true, if_false] at h
    split at h <;> cases h
  · rfl

structure Sim (l : Ls) (X : Nat × Int → Nat × Int) (q : List UInt8) (a : Nat) : Prop where
  go : a ≤ l.length → X (a, 0) = st l (mt l q a)
  stay : ∀ p, p.2 ≠ 0 → X p = p

theorem Sim.comp {X Y : Nat × Int → Nat × Int} {q r : List UInt8} (h1 : Sim l X q a) (h2 : Sim l Y r (a + q.length)) : Sim l (fun p => Y (X p)) (q ++ r) a where
  go := fun ha => by
    show Y (X (a, 0)) = _
    rw [h1.go ha, mt_append]
    cases hq : (mt l q a).2 with
    | true =>
      have := mt_true hq
      have hle := mt_len (l := l) (p := q) ha
      rw [if_pos rfl]
      have : st l (mt l q a) = (a + q.length, 0) := by unfold st; rw [hq, if_pos rfl, this]
      rw [this]
      exact h2.go (by omega)
    | false =>
      rw [if_neg (by simp)]
      refine h2.stay _ ?_
      intro h0
      have := st_zero h0
      rw [hq] at this; cases this
  stay := fun p hp => by
    show Y (X p) = p
    rw [h1.stay p hp, h2.stay p hp]

theorem Sim.nil (l : Ls) (a : Nat) : Sim l (fun p => p) [] a := ⟨fun _ => rfl, fun _ _ => rfl⟩

theorem peek_ne (hg : Good l) : peek l a ≠ [] ↔ a < l.length := by
  unfold peek
  constructor
  · intro h
    rcases Nat.lt_or_ge a l.length with h1 | h1
    · exact h1
    · exact absurd (by rw [List.getD_eq_getElem?_getD, List.getElem?_eq_none h1]; rfl) h
  · intro h
    rw [getD_ltL h]; exact hg.ne _ (List.getElem_mem _)

theorem tk_st (hg : Good l) {f : List UInt8 → Bool} {b : UInt8} (hf : a < l.length → f (peek l a) = fitS l a b) : (tk f l a 0).2 = st l (mt l [b] a) := by
  unfold tk
  by_cases hc : a < l.length ∧ fitS l a b = true
  · rw [if_pos ⟨rfl, (peek_ne hg).2 hc.1, by rw [hf hc.1]; exact hc.2⟩]
    simp only [mt]
    rw [if_pos hc]
    rfl
  · rw [if_neg (fun h => hc ⟨(peek_ne hg).1 h.2.1, by rw [← hf ((peek_ne hg).1 h.2.1)]; exact h.2.2⟩)]
    simp only [mt]
    rw [if_neg hc]
    rfl

theorem tk_stay {f : List UInt8 → Bool} {p : Nat × Int} (h : p.2 ≠ 0) : (tk f l p.1 p.2).2 = p := by
  unfold tk
  rw [if_neg (fun hh => h hh.1)]
  simp only [if_neg h]

theorem sim_tk (hg : Good l) {f : List UInt8 → Bool} {b : UInt8} (hf : a < l.length → f (peek l a) = fitS l a b) : Sim l (fun p => (tk f l p.1 p.2).2) [b] a :=
  ⟨fun _ => tk_st hg hf, fun _ h => tk_stay h⟩

/-- a sign that stands for itself -/
def own (b : UInt8) : Prop := b ≠ 57 ∧ b ≠ 50 ∧ b ≠ 53 ∧ b ≠ 51 ∧ ¬ (b = 77 ∨ b = 87) ∧ ¬ (b = 71 ∨ b = 109 ∨ b = 84 ∨ b = 85)

theorem fit_own {b : UInt8} (h : own b) : fitS l a b = decide (peek l a = [b]) := by
  unfold fitS
  rw [if_neg h.1, if_neg h.2.1, if_neg h.2.2.1, if_neg h.2.2.2.1, if_neg h.2.2.2.2.1, if_neg h.2.2.2.2.2]
  rfl

instance (b : UInt8) : Decidable (own b) := by unfold own; infer_instance

theorem sim_sg (hg : Good l) {b : UInt8} (h : own b) : Sim l (sg [b] l) [b] a := sim_tk hg fun _ => (fit_own h).symm

/-! Numbers. -/
theorem nm_stay {b : Int} : ∀ (j : Nat) {v : Int} {p : Nat × Int}, p.2 ≠ 0 → (nm b l j v p.1 p.2).2 = p
  | 0, _, _, _ => rfl
  | j + 1, v, p, h => by
    simp only [nm]
    have ht := tk_stay (l := l) (f := fun c => isdig c && decide ((v * 10 + dval c) * 10 ^ j < b)) h
    have h1 : (tk (fun c => isdig c && decide ((v * 10 + dval c) * 10 ^ j < b)) l p.1 p.2).2.1 = p.1 := by rw [ht]
    have h2 : (tk (fun c => isdig c && decide ((v * 10 + dval c) * 10 ^ j < b)) l p.1 p.2).2.2 = p.2 := by rw [ht]
    rw [h1, h2]
    exact nm_stay j h

/-- The digits' value. -/
def dv (l : Ls) : Nat → Int → Nat → Int
  | 0, v, _ => v
  | j + 1, v, a => dv l j (v * 10 + dval (peek l a)) (a + 1)

theorem nm_cons (hg : Good l) {b : Int} {j : Nat} {v : Int} {x : UInt8} {q : List UInt8} (_ha : a ≤ l.length) (hf : a < l.length → (isdig (peek l a) && decide ((v * 10 + dval (peek l a)) * 10 ^ j < b)) = fitS l a x)
    (ih : a < l.length → fitS l a x = true → (nm b l j (v * 10 + dval (peek l a)) (a + 1) 0).2 = st l (mt l q (a + 1)) ∧ ((mt l q (a + 1)).2 = true → (nm b l j (v * 10 + dval (peek l a)) (a + 1) 0).1 = dv l j (v * 10 + dval (peek l a)) (a + 1))) :
    (nm b l (j + 1) v a 0).2 = st l (mt l (x :: q) a) ∧ ((mt l (x :: q) a).2 = true → (nm b l (j + 1) v a 0).1 = dv l (j + 1) v a) := by
  by_cases hc : a < l.length ∧ fitS l a x = true
  · have hp := (peek_ne hg).2 hc.1
    have ht : tk (fun c => isdig c && decide ((v * 10 + dval c) * 10 ^ j < b)) l a 0 = (peek l a, a + 1, 0) := tk_yes rfl hp (by rw [hf hc.1]; exact hc.2)
    simp only [nm, ht, mt, dv]
    rw [if_pos hc, if_neg hp]
    exact ih hc.1 hc.2
  · have ht : (tk (fun c => isdig c && decide ((v * 10 + dval c) * 10 ^ j < b)) l a 0).2 = st l (a, false) := by
      rw [tk_no (fun h => hc ⟨(peek_ne hg).1 h.2.1, by rw [← hf ((peek_ne hg).1 h.2.1)]; exact h.2.2⟩)]
      rfl
    simp only [nm, mt]
    rw [if_neg hc]
    refine ⟨?_, fun h => by cases h⟩
    have h1 : (tk (fun c => isdig c && decide ((v * 10 + dval c) * 10 ^ j < b)) l a 0).2.1 = (st l (a, false)).1 := by rw [ht]
    have h2 : (tk (fun c => isdig c && decide ((v * 10 + dval c) * 10 ^ j < b)) l a 0).2.2 = (st l (a, false)).2 := by rw [ht]
    rw [h1, h2]
    exact nm_stay j (p := st l (a, false)) (by intro h0; have := st_zero h0; cases this)

theorem nm_nil {b v : Int} : (nm b l 0 v a 0).2 = st l (mt l [] a) ∧ ((mt l [] a).2 = true → (nm b l 0 v a 0).1 = dv l 0 v a) := ⟨rfl, fun _ => rfl⟩

theorem dval_eq {c : List UInt8} (h : isdig c = true) : dval c = ((c.getD 0 0).toNat : Int) - 48 ∧ 48 ≤ (c.getD 0 0).toNat ∧ (c.getD 0 0).toNat ≤ 57 := by
  simp only [isdig, Bool.and_eq_true, decide_eq_true_eq] at h
  refine ⟨?_, h.1.2, h.2⟩
  unfold dval
  generalize c.getD 0 0 = b at h ⊢
  have h1 : (48 : UInt8) ≤ b := by rw [UInt8.le_iff_toNat_le]; exact h.1.2
  have : (b - 48).toNat = b.toNat - 48 := UInt8.toNat_sub_of_le _ _ h1
  omega

theorem fit57 : fitS l a 57 = isdig (peek l a) := rfl
theorem fit50 : fitS l a 50 = (isdig (peek l a) && decide (((peek l a).getD 0 0).toNat ≤ 50)) := rfl
theorem fit53 : fitS l a 53 = (isdig (peek l a) && decide (((peek l a).getD 0 0).toNat ≤ 53)) := rfl
theorem fit51 : fitS l a 51 = (isdig (peek l a) && (decide (((peek l a).getD 0 0).toNat ≤ 51) || !decide (peek l (a - 1) = [50]))) := rfl

theorem dig_and {c : List UInt8} {x y : Bool} (h : isdig c = true → x = y) : (isdig c && x) = (isdig c && y) := by
  cases hc : isdig c
  · rfl
  · rw [h hc]

/-- A number's digits, and how far they go. -/
structure Num (l : Ls) (b : Int) (n : Nat) (q : List UInt8) (a : Nat) : Prop where
  sim : Sim l (fun p => (nn b n l p).2) q a
  val : a ≤ l.length → (mt l q a).2 = true → (nn b n l (a, 0)).1 = dv l n 0 a

theorem Num.of {b : Int} {n : Nat} {q : List UInt8} (h : a ≤ l.length → (nm b l n 0 a 0).2 = st l (mt l q a) ∧ ((mt l q a).2 = true → (nm b l n 0 a 0).1 = dv l n 0 a)) : Num l b n q a :=
  ⟨⟨fun ha => (h ha).1, fun _p hp => nm_stay n hp⟩, fun ha => (h ha).2⟩

theorem num10 (hg : Good l) : Num l 10 1 [57] a := .of fun ha => nm_cons hg ha (fun _ => by
    rw [fit57, ← Bool.and_true (isdig (peek l a)), Bool.and_assoc, Bool.true_and]
    refine dig_and fun hd => ?_
    have := isdig_val hd
    simp; omega) fun _ _ => nm_nil

theorem num100 (hg : Good l) : Num l 100 2 [57, 57] a := .of fun ha => nm_cons hg ha (fun _ => by
    rw [fit57, ← Bool.and_true (isdig (peek l a)), Bool.and_assoc, Bool.true_and]
    refine dig_and fun hd => ?_
    have := isdig_val hd
    simp; omega) fun h1 h2 => nm_cons hg (by omega) (fun _ => by
    rw [fit57] at h2
    have h3 := isdig_val h2
    rw [fit57, ← Bool.and_true (isdig (peek l (a + 1))), Bool.and_assoc, Bool.true_and]
    refine dig_and fun hd => ?_
    have := isdig_val hd
    simp; omega) fun _ _ => nm_nil

theorem num60 (hg : Good l) : Num l 60 2 [53, 57] a := .of fun ha => nm_cons hg ha (fun _ => by
    rw [fit53]
    refine dig_and fun hd => ?_
    have := dval_eq hd
    rw [decide_eq_decide]
    generalize ((peek l a).getD 0 0).toNat = e at this ⊢
    simp; omega) fun h1 h2 => nm_cons hg (by omega) (fun _ => by
    rw [fit53, Bool.and_eq_true, decide_eq_true_eq] at h2
    have h3 := dval_eq h2.1
    rw [fit57, ← Bool.and_true (isdig (peek l (a + 1))), Bool.and_assoc, Bool.true_and]
    refine dig_and fun hd => ?_
    have := isdig_val hd
    simp; omega) fun _ _ => nm_nil

theorem is50 {c : List UInt8} (h : isdig c = true) : c = [50] ↔ (c.getD 0 0).toNat = 50 := by
  simp only [isdig, Bool.and_eq_true, decide_eq_true_eq] at h
  obtain ⟨x, rfl⟩ := List.length_eq_one_iff.1 h.1.1
  constructor
  · intro h; rw [h]; rfl
  · intro h
    have h' : x.toNat = 50 := h
    have : x = 50 := UInt8.toNat_inj.1 (by rw [h']; rfl)
    rw [this]

theorem num24 (hg : Good l) : Num l 24 2 [50, 51] a := .of fun ha => nm_cons hg ha (fun _ => by
    rw [fit50]
    refine dig_and fun hd => ?_
    have := dval_eq hd
    rw [decide_eq_decide]
    generalize ((peek l a).getD 0 0).toNat = e at this ⊢
    simp; omega) fun h1 h2 => nm_cons hg (by omega) (fun _ => by
    rw [fit50, Bool.and_eq_true, decide_eq_true_eq] at h2
    have h3 := dval_eq h2.1
    have h5 := is50 h2.1
    have h6 := h2.2
    rw [fit51, Nat.add_sub_cancel]
    refine dig_and fun hd => ?_
    have h4 := dval_eq hd
    have : (decide (((peek l (a + 1)).getD 0 0).toNat ≤ 51) || !decide (peek l a = [50])) = decide (((peek l (a + 1)).getD 0 0).toNat ≤ 51 ∨ ¬ peek l a = [50]) := by
      rw [Bool.decide_or, decide_not]
    rw [this, decide_eq_decide, h5]
    generalize ((peek l a).getD 0 0).toNat = e at h3 h6 ⊢
    generalize ((peek l (a + 1)).getD 0 0).toNat = e' at h4 ⊢
    simp; omega) fun _ _ => nm_nil

theorem num10000 (hg : Good l) : Num l 10000 4 [57, 57, 57, 57] a := .of fun ha => nm_cons hg ha (fun _ => by
    rw [fit57, ← Bool.and_true (isdig (peek l a)), Bool.and_assoc, Bool.true_and]
    refine dig_and fun hd => ?_
    have := isdig_val hd
    simp; omega) fun h1 h2 => nm_cons hg (by omega) (fun _ => by
    rw [fit57] at h2
    have h3 := isdig_val h2
    rw [fit57, ← Bool.and_true (isdig (peek l (a + 1))), Bool.and_assoc, Bool.true_and]
    refine dig_and fun hd => ?_
    have := isdig_val hd
    simp; omega) fun h3 h4 => nm_cons hg (by omega) (fun _ => by
    rw [fit57] at h2 h4
    have h5 := isdig_val h2
    have h6 := isdig_val h4
    rw [fit57, ← Bool.and_true (isdig (peek l (a + 1 + 1))), Bool.and_assoc, Bool.true_and]
    refine dig_and fun hd => ?_
    have := isdig_val hd
    simp; omega) fun h5 h6 => nm_cons hg (by omega) (fun _ => by
    rw [fit57] at h2 h4 h6
    have h7 := isdig_val h2
    have h8 := isdig_val h4
    have h9 := isdig_val h6
    rw [fit57, ← Bool.and_true (isdig (peek l (a + 1 + 1 + 1))), Bool.and_assoc, Bool.true_and]
    refine dig_and fun hd => ?_
    have := isdig_val hd
    simp; omega) fun _ _ => nm_nil

end Go.Dt
