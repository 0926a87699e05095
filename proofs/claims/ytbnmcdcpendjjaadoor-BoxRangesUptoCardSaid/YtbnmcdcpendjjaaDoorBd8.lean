/- Parts of a set, each by itself. -/
import Derived.Test.YtbnmcdcpendjjaaDoorBd7
namespace Go.Bd
open Go Go.Ev
set_option maxRecDepth 100000

/-- the end of a part -/
def Edge (q : Ls) : Prop := q = [] ∨ q.getD 0 [] = [44]

theorem digs_loc (q : Ls) (hq : Edge q) : ∀ (p : Ls) (n : Int), digs n (p ++ q) = match digs n p with
    | .inl x => .inl (x.1, x.2 ++ q)
    | .inr t => .inr (t ++ q)
  | [], n => by
    simp only [List.nil_append, digs]
    cases q with
    | nil => rfl
    | cons c t =>
      rcases hq with h | h
      · cases h
      · have hc : c = [44] := h
        subst hc
        simp only [digs]
        rw [if_neg (by decide)]
  | c :: p, n => by
    simp only [List.cons_append, digs]
    by_cases hc : isd c = true
    · rw [if_pos hc, if_pos hc]
      by_cases hb : 10 * n + (((c.getD 0 0).toNat : Int) - 48) = 0 ∨ 4294967295 < 10 * n + (((c.getD 0 0).toNat : Int) - 48)
      · rw [if_pos hb, if_pos hb]; rfl
      · rw [if_neg hb, if_neg hb]
        exact digs_loc q hq p _
    · rw [if_neg hc, if_neg hc]; rfl

theorem ones_loc (q : Ls) (hq : Edge q) (p : Ls) : ones (p ++ q) = ((ones p).1, (ones p).2.1 ++ q, (ones p).2.2) := by
  have hst : (p ++ q ≠ [] ∧ (p ++ q).getD 0 [] = star) ↔ (p ≠ [] ∧ p.getD 0 [] = star) := by
    cases p with
    | nil =>
      constructor
      · rintro ⟨h1, h2⟩
        rcases hq with h | h
        · exact absurd h h1
        · rw [List.nil_append, h] at h2; cases h2
      · rintro ⟨h, _⟩; exact absurd rfl h
    | cons c t => exact ⟨fun h => ⟨by simp, h.2⟩, fun h => ⟨by simp, h.2⟩⟩
  unfold ones
  by_cases hs : p ≠ [] ∧ p.getD 0 [] = star
  · rw [if_pos (hst.mpr hs), if_pos hs]
    cases p with
    | nil => exact absurd rfl hs.1
    | cons c t => rfl
  · rw [if_neg (fun h => hs (hst.mp h)), if_neg hs, digs_loc q hq p 0]
    cases digs 0 p with
    | inl x =>
      simp only [List.length_append, Prod.mk.injEq, true_and]
      rw [decide_eq_decide]; omega
    | inr t => rfl

theorem two_loc (q : Ls) (hq : Edge q) (p : Ls) : two (p ++ q) = ((two p).1, (two p).2.1, (two p).2.2.1 ++ q, (two p).2.2.2) := by
  unfold two
  rw [ones_loc q hq p]
  simp only
  generalize ones p = o
  obtain ⟨a, r, ok⟩ := o
  simp only
  cases r with
  | nil =>
    have h1 : ¬ (ok = true ∧ ([] : Ls) ++ q ≠ [] ∧ (([] : Ls) ++ q).getD 0 [] = [58]) := by
      rintro ⟨_, h1, h2⟩
      rcases hq with h | h
      · exact h1 h
      · rw [List.nil_append, h] at h2; cases h2
    rw [if_neg h1, if_neg (fun h => h.2.1 rfl)]
  | cons c t =>
    have h1 : (ok = true ∧ (c :: t) ++ q ≠ [] ∧ ((c :: t) ++ q).getD 0 [] = [58]) ↔ (ok = true ∧ (c :: t) ≠ [] ∧ (c :: t).getD 0 [] = [58]) :=
      ⟨fun h => ⟨h.1, by simp, h.2.2⟩, fun h => ⟨h.1, by simp, h.2.2⟩⟩
    by_cases h : ok = true ∧ (c :: t) ≠ [] ∧ (c :: t).getD 0 [] = [58]
    · rw [if_pos (h1.mpr h), if_pos h]
      have : ((c :: t) ++ q).drop 1 = t ++ q := rfl
      rw [this, ones_loc q hq t]
      rfl
    · rw [if_neg (fun h' => h (h1.mp h')), if_neg h]

theorem digs_mem : ∀ (r : Ls) (n : Int), match digs n r with | .inl p => ∀ c ∈ p.2, c ∈ r | .inr t => ∀ c ∈ t, c ∈ r
  | [], n => by simp [digs]
  | c :: t, n => by
    simp only [digs]
    by_cases h : isd c = true
    · rw [if_pos h]
      by_cases hb : 10 * n + (((c.getD 0 0).toNat : Int) - 48) = 0 ∨ 4294967295 < 10 * n + (((c.getD 0 0).toNat : Int) - 48)
      · rw [if_pos hb]; exact fun _ h => h
      · rw [if_neg hb]
        have := digs_mem t (10 * n + (((c.getD 0 0).toNat : Int) - 48))
        cases hd : digs (10 * n + (((c.getD 0 0).toNat : Int) - 48)) t with
        | inl p => rw [hd] at this; exact fun x hx => List.mem_cons_of_mem _ (this x hx)
        | inr p => rw [hd] at this; exact fun x hx => List.mem_cons_of_mem _ (this x hx)
    · rw [if_neg h]; exact fun _ h => h

theorem ones_mem (r : Ls) : ∀ c ∈ (ones r).2.1, c ∈ r := by
  unfold ones
  split
  · exact fun c h => List.mem_of_mem_drop h
  · have := digs_mem r 0
    cases hd : digs 0 r with
    | inl p => rw [hd] at this; exact this
    | inr p => rw [hd] at this; exact this

theorem two_mem (r : Ls) : ∀ c ∈ (two r).2.2.1, c ∈ r := by
  unfold two
  split
  · exact fun c h => ones_mem r c (List.mem_of_mem_drop (ones_mem _ c h))
  · exact ones_mem r

/-- a number of a part -/
def okv (x : Int) : Prop := x = -1 ∨ (1 ≤ x ∧ x ≤ 4294967295)

theorem digs_pos : ∀ (r : Ls) (n : Int) (p : Int × Ls), 0 ≤ n → n ≤ 4294967295 → digs n r = .inl p → n ≤ p.1 ∧ p.1 ≤ 4294967295 ∧ (p.2.length < r.length → 1 ≤ p.1)
  | [], n, p, h0, h1, h => by
    injection h with h; subst h; exact ⟨Int.le_refl _, h1, fun h => by simp at h⟩
  | c :: t, n, p, h0, h1, h => by
    simp only [digs] at h
    by_cases hc : isd c = true
    · rw [if_pos hc] at h
      by_cases hb : 10 * n + (((c.getD 0 0).toNat : Int) - 48) = 0 ∨ 4294967295 < 10 * n + (((c.getD 0 0).toNat : Int) - 48)
      · rw [if_pos hb] at h; cases h
      · rw [if_neg hb] at h
        have hge : 48 ≤ (c.getD 0 0).toNat := by
          unfold isd at hc
          rw [Bool.and_eq_true, Bool.and_eq_true, decide_eq_true_eq, decide_eq_true_eq, decide_eq_true_eq] at hc
          exact hc.1.2
        obtain ⟨q1, q2, q3⟩ := digs_pos t _ p (by omega) (by omega) h
        exact ⟨by omega, q2, fun _ => by omega⟩
    · rw [if_neg hc] at h
      injection h with h; subst h
      exact ⟨Int.le_refl _, h1, fun h => absurd h (Nat.lt_irrefl _)⟩

theorem ones_okv (r : Ls) (h : (ones r).2.2 = true) : okv (ones r).1 := by
  unfold ones at *
  split
  · exact .inl rfl
  · rename_i hs
    rw [if_neg hs] at h
    cases hd : digs 0 r with
    | inl p =>
      rw [hd] at h
      simp only [decide_eq_true_eq] at h
      obtain ⟨q1, q2, q3⟩ := digs_pos r 0 p (Int.le_refl _) (by omega) hd
      exact .inr ⟨q3 h, q2⟩
    | inr t => rw [hd] at h; cases h

theorem two_okv (r : Ls) (h : (two r).2.2.2 = true) : okv (two r).1 ∧ okv (two r).2.1 := by
  unfold two at *
  split
  · rename_i hc
    rw [if_pos hc] at h
    exact ⟨ones_okv r hc.1, ones_okv _ h⟩
  · rename_i hc
    rw [if_neg hc] at h
    exact ⟨ones_okv r h, ones_okv r h⟩

/-- What a set that is right tells of its parts. -/
theorem prs_good (len : Nat) : ∀ (m : Nat) (r : Ls) (out : List Pr), r.length < m → (prs len m r out).1.2.2.1 = 0 → (∀ p ∈ out, okv p.1 ∧ okv p.2.1) →
    (∀ p ∈ (prs len m r out).2.1, okv p.1 ∧ okv p.2.1) ∧ (∀ p ∈ out, p ∈ (prs len m r out).2.1)
  | 0, _, _, h, _, _ => absurd h (Nat.not_lt_zero _)
  | m + 1, r, out, hm, hc, ho => by
    have htl := two_len r
    simp only [prs] at hc ⊢
    by_cases h1 : (two r).2.2.2 = false ∧ (two r).2.2.1 = []
    · rw [if_pos h1] at hc; cases hc
    · rw [if_neg h1] at hc ⊢
      by_cases h2 : (two r).2.2.2 = false ∨ ((two r).2.2.1 ≠ [] ∧ (two r).2.2.1.getD 0 [] ≠ [44])
      · rw [if_pos h2] at hc; cases hc
      · rw [if_neg h2] at hc ⊢
        have hok : (two r).2.2.2 = true := by
          cases h : (two r).2.2.2
          · exact absurd (.inl h) h2
          · rfl
        have hv := two_okv r hok
        have ho' : ∀ p ∈ out ++ [((two r).1, (two r).2.1, ())], okv p.1 ∧ okv p.2.1 := fun p hp => by
          rcases List.mem_append.mp hp with h | h
          · exact ho p h
          · rw [List.mem_singleton.mp h]; exact hv
        by_cases h3 : (two r).2.2.1 = []
        · rw [if_pos h3] at hc ⊢
          exact ⟨ho', fun p hp => List.mem_append_left _ hp⟩
        · rw [if_neg h3] at hc ⊢
          have hpos : 0 < (two r).2.2.1.length := List.length_pos_iff.mpr h3
          obtain ⟨g1, g2⟩ := prs_good len m ((two r).2.2.1.drop 1) _ (by rw [List.length_drop]; omega) hc ho'
          exact ⟨g1, fun p hp => g2 p (List.mem_append_left _ hp)⟩

/-- A set's first part, by itself. -/
theorem prs_part (len m : Nat) (p q : Ls) (out : List Pr) (hq : Edge q) (hp : ∀ c ∈ p, c ≠ [44]) (hc : (prs len (m + 1) (p ++ q) out).1.2.2.1 = 0) :
    (two p).2.2.2 = true ∧ (two p).2.2.1 = [] ∧ prs len (m + 1) (p ++ q) out = (if q = [] then (((), 0, 0, ()), (out ++ [((two p).1, (two p).2.1, ())], ())) else prs len m (q.drop 1) (out ++ [((two p).1, (two p).2.1, ())])) := by
  have hl := two_loc q hq p
  simp only [prs] at hc ⊢
  rw [hl] at hc ⊢
  simp only at hc ⊢
  by_cases h1 : (two p).2.2.2 = false ∧ (two p).2.2.1 ++ q = []
  · rw [if_pos h1] at hc; cases hc
  · rw [if_neg h1] at hc ⊢
    by_cases h2 : (two p).2.2.2 = false ∨ ((two p).2.2.1 ++ q ≠ [] ∧ ((two p).2.2.1 ++ q).getD 0 [] ≠ [44])
    · rw [if_pos h2] at hc; cases hc
    · rw [if_neg h2] at hc ⊢
      have hok : (two p).2.2.2 = true := by
        cases h : (two p).2.2.2
        · exact absurd (.inl h) h2
        · rfl
      have hm := two_mem p
      cases hr : (two p).2.2.1 with
      | nil =>
        rw [hr] at hc
        refine ⟨hok, rfl, ?_⟩
        rw [List.nil_append]
      | cons c t =>
        rw [hr] at h2 hm
        exfalso
        apply h2
        exact .inr ⟨by simp, hp c (hm c (List.mem_cons_self ..))⟩

theorem prs_alone (len m : Nat) (p : Ls) (hok : (two p).2.2.2 = true) (hr : (two p).2.2.1 = []) : prs len (m + 1) p [] = (((), 0, 0, ()), ([((two p).1, (two p).2.1, ())], ())) := by
  simp only [prs]
  rw [if_neg (fun h => by rw [hok] at h; cases h.1), if_neg (fun h => by rcases h with h | h; · rw [hok] at h; cases h
                                                                         · exact h.1 hr), if_pos hr]
  rfl

/-! letters of plain text -/
def sing (b : UInt8) : List UInt8 := [b]

theorem lets_ascii : ∀ (n : Nat) (s : List UInt8), s.length ≤ n → (∀ b ∈ s, b.toNat < 128) → lets n s = s.map sing
  | 0, [], _, _ => rfl
  | 0, _ :: _, h, _ => absurd h (Nat.not_succ_le_zero _)
  | n + 1, [], _, _ => rfl
  | n + 1, b :: t, h, hs => by
    have hb := hs b (List.mem_cons_self ..)
    have hw : wid (b :: t) = 1 := by
      rw [wid_eq (by simp), Lib.decodeL_ascii b t hb]
    simp only [lets]
    rw [if_neg (by simp), hw, List.take_succ_cons, List.take_zero, List.drop_succ_cons, List.drop_zero,
      lets_ascii n t (by simp only [List.length_cons] at h; omega) (fun x hx => hs x (List.mem_cons_of_mem _ hx))]
    rfl

theorem runes_ascii : ∀ (n : Nat) (s : List UInt8), s.length ≤ n → (∀ v ∈ runes n s, v < 128) → ∀ b ∈ s, b.toNat < 128
  | 0, [], _, _ => fun b h => by cases h
  | 0, _ :: _, h, _ => absurd h (Nat.not_succ_le_zero _)
  | n + 1, [], _, _ => fun b h => by cases h
  | n + 1, b :: t, h, hs => by
    simp only [runes] at hs
    rw [if_neg (by simp)] at hs
    have h1 := hs _ (List.mem_cons_self ..)
    have hb : b.toNat < 128 := by
      rcases Nat.lt_or_ge b.toNat 128 with hb | hb
      · exact hb
      · have := decodeN_big (b :: t).length ((b :: t).getD 0 0).toNat ((b :: t).getD 1 0).toNat ((b :: t).getD 2 0).toNat ((b :: t).getD 3 0).toNat hb
        rw [← Lib.decodeL_N] at this
        omega
    have hw : wid (b :: t) = 1 := by
      rw [wid_eq (by simp), Lib.decodeL_ascii b t hb]
    intro x hx
    rcases List.mem_cons.mp hx with rfl | hx
    · exact hb
    · refine runes_ascii n t (by simp only [List.length_cons] at h; omega) (fun v hv => hs v (List.mem_cons_of_mem _ ?_)) x hx
      rw [hw, List.drop_succ_cons, List.drop_zero]
      exact hv

theorem tk_small {most c : Int} {q r : Q} (h : tk most q c = some r) : c < 128 := by
  unfold tk at h
  split at h
  · rename_i hs; omega
  · split at h
    · rename_i m hd
      split at hd
      · unfold dig at hd
        split at hd
        · cases hd
        · omega
      · cases hd
    · split at h
      · rename_i hs; omega
      · split at h
        · rename_i hs; omega
        · cases h

theorem runA_small {most : Int} : ∀ (vs : List Int) (q : Q) (pl : Nat) (x : (Int × Unit × Unit) × ((Int × Int × Int × Bool × Int × Unit × Unit) × List Pr × Unit)), runA most q pl vs = .inl x → ∀ v ∈ vs, v < 128
  | [], _, _, _, _ => fun v h => by cases h
  | a :: t, q, pl, x, h => by
    simp only [runA] at h
    cases ht : tk most q a with
    | none => rw [ht] at h; cases h
    | some r =>
      rw [ht] at h
      intro v hv
      rcases List.mem_cons.mp hv with rfl | hv
      · exact tk_small ht
      · exact runA_small t r (pl + 1) x h v hv

/-- What a right set is. -/
theorem set_good {s : List UInt8} {most : Int} (h : (set s most).2.2.1 = 0) :
    (∀ b ∈ s, b.toNat < 128) ∧ ∃ out : List Pr, prs (s.map sing).length ((s.map sing).length + 1) (s.map sing) [] = (((), 0, 0, ()), (out, ())) ∧ out.length ≤ 32 ∧ (0 ≤ most ∧ most ≤ 4294967295) ∧ (most = 0 → out.any neg = false) ∧ (set s most).1 = joined (out.map (subs most)) := by
  by_cases hm : most < 0 ∨ 4294967295 < most
  · unfold set at h
    rw [if_pos hm] at h
    cases h
  · have e := same_set most (lets s.length s).length _ _ (runes s.length s) [] 0 (lets_runes _ _) (Nat.lt_succ_self _) (Nat.zero_add _)
    have hset : set s most = resR most (prs (lets s.length s).length ((lets s.length s).length + 1) (lets s.length s) []) := by
      unfold set; rw [if_neg hm]
    have hs : ∀ b ∈ s, b.toNat < 128 := by
      rw [hset, ← e] at h
      cases hr : runA most (0, 0, ([] : List Pr).any neg, ([] : List Pr).map (subs most)) 0 (runes s.length s) with
      | inl x => exact runes_ascii _ _ (Nat.le_refl _) (runA_small _ _ _ _ hr)
      | inr x => rw [hr] at h; cases h
    refine ⟨hs, ?_⟩
    rw [lets_ascii _ _ (Nat.le_refl _) hs] at hset
    rw [hset] at h ⊢
    have hz : ∀ (m : Nat) (r : Ls) (o : List Pr), (prs (s.map sing).length m r o).1.2.2.1 = 0 → (prs (s.map sing).length m r o).1 = ((), 0, 0, ()) := by
      intro m
      induction m with
      | zero => intro r o _; rfl
      | succ m ih =>
        intro r o hc
        simp only [prs] at hc ⊢
        split at hc
        · cases hc
        · rename_i h1
          rw [if_neg h1]
          split at hc
          · cases hc
          · rename_i h2
            rw [if_neg h2]
            split at hc
            · rename_i h3; rw [if_pos h3]
            · rename_i h3; rw [if_neg h3]; exact ih _ _ hc
    generalize hx : prs (s.map sing).length ((s.map sing).length + 1) (s.map sing) [] = x at h ⊢
    have hz' := hz ((s.map sing).length + 1) (s.map sing) []
    rw [hx] at hz'
    unfold resR at h ⊢
    by_cases hc : x.1.2.2.1 ≠ 0
    · rw [if_pos hc] at h
      exact absurd h hc
    · rw [if_neg hc] at h ⊢
      have hx1 := hz' (Classical.not_not.mp hc)
      obtain ⟨x1, out, u⟩ := x
      cases u
      simp only at hx1 h ⊢
      subst hx1
      by_cases h32 : 32 < out.length
      · rw [if_pos h32] at h; cases h
      · rw [if_neg h32] at h ⊢
        cases hn : (decide (most = 0) && out.any neg)
        · refine ⟨out, rfl, by omega, by omega, fun h0 => ?_, ?_⟩
          · rw [h0] at hn; simpa using hn
          · rfl
        · rw [hn] at h; cases h

theorem set_bad {s : List UInt8} {most : Int} (h : (set s most).2.2.1 ≠ 0) : (set s most).1 = [] := by
  unfold set at *
  split
  · rfl
  · rename_i hm
    rw [if_neg hm] at h
    unfold resR at *
    split
    · rfl
    · rename_i h1
      rw [if_neg h1] at h
      split
      · rfl
      · rename_i h2
        rw [if_neg h2] at h
        split
        · rfl
        · rename_i h3
          rw [if_neg h3] at h
          exact absurd rfl h

end Go.Bd
