/- The law BoxRanges. -/
import Derived.Test.YtbnmcdcpendjjaaDoorBd8
namespace Go.Bd
open Go Go.Ev
set_option maxRecDepth 100000

def inn (n : Int) (p : Pr) : Bool := decide (p.1 ≤ n) && decide (n ≤ p.2.1)

theorem foldS_any {α τ : Type} (g : α → Bool) (y : Nat → τ) (n : τ) : ∀ (s : List α) (b : Nat),
    (∃ k : Nat, s.any g = true ∧ foldS (fun a (b : Nat) => if g a = true then (.inr (y b) : Nat ⊕ τ) else .inl (b + 1)) (fun _ => n) b s = y k) ∨ (s.any g = false ∧ foldS (fun a (b : Nat) => if g a = true then (.inr (y b) : Nat ⊕ τ) else .inl (b + 1)) (fun _ => n) b s = n)
  | [], _ => .inr ⟨rfl, rfl⟩
  | a :: t, b => by
    simp only [foldS, List.any_cons]
    by_cases h : g a = true
    · simp only [h, ↓reduceIte, Bool.true_or]
      exact .inl ⟨b, trivial, rfl⟩
    · simp only [h, ↓reduceIte, Bool.false_or]
      exact foldS_any g y n t (b + 1)

abbrev R32 : Type := (((Unit × Unit) × Unit) × ((Int × Unit) × Unit)) ⊕ (((Unit × Unit) × Int × Unit) × ((Int × Unit) × Unit))

theorem F9_eq (l : List Pr) (n : Int) (hl : l.length ≤ 32) : F9 ((l, n, ()), ()) = some (l.any (inn n), ()) := by
  have hF := FUEL_big
  have h : L32c18_0 ((l, ((), ()), ((l.length : Nat) : Int), (0:Int), ()), ((n, ()), ())) = some (foldS (fun a (b : Nat) => if inn n a = true then (.inr (.inr ((((), ()), (b : Int), ()), ((n, ()), ()))) : Nat ⊕ R32) else .inl (b + 1)) (fun _ => .inl ((((), ()), ()), ((n, ()), ()))) 0 l) := by
    refine walk_listI (f := B32c18_0) (fun (_ : Nat) i => ((l, ((), ()), ((l.length : Nat) : Int), (i : Int), ()), ((n, ()), ()))) l _ _ (fun b i => b = i) (b := 0)
      (fun b i a hI hi ha => ?_) (fun b _ => ?_) (by omega) rfl
    · subst hI
      simp only [B32c18_0, F18, nat_lt, nat_nn, hi, decide_true, Bool.and_true, cond_true, Int.toNat_natCast, ha, Option.bind_some]
      change (∃ c, (if inn n a = true then _ else _) = _ ∧ _ ∧ (cond (inn n a) _ _) = _) ∨ (∃ r, (if inn n a = true then _ else _) = _ ∧ (cond (inn n a) _ _) = _)
      cases inn n a
      · exact .inl ⟨_, rfl, rfl, by simp only [cond_false, w64_nat (show b < 9223372036854775807 by omega)]⟩
      · exact .inr ⟨_, rfl, rfl⟩
    · simp only [B32c18_0, Int.lt_irrefl, decide_false, cond_false]
  rcases foldS_any (inn n) (fun b => (.inr ((((), ()), (b : Int), ()), ((n, ()), ())) : R32)) (.inl ((((), ()), ()), ((n, ()), ()))) l 0 with ⟨k, h1, h2⟩ | ⟨h1, h2⟩
  · rw [h2] at h
    simp only [F9, F17c18, F32c18, h, Option.bind_some, nat_nn, h1]
  · rw [h2] at h
    simp only [F9, F17c18, F32c18, h, Option.bind_some, h1]
    rfl

theorem L4a_eq (s : List UInt8) (most n : Int) (l : List Pr) (hl : l.length ≤ 32) (hc : Can l) (h1 : ∀ p ∈ l, 1 ≤ p.1 ∧ p.2.1 ≤ 4294967295) :
    L4_0 ((s, most, n, l, (0:Int), ()), ()) = some (.inl ((s, most, n, l, ()), ())) := by
  have hF := FUEL_big
  have h := walk_list (f := B4_0) (fun (_ : Unit) i => ((s, most, n, l, (i : Int), ()), ())) l (fun _ _ => .inl ()) (fun _ => .inl ((s, most, n, l, ()), ())) (b := ()) (fun b i a hi ha => by
      have hm : a ∈ l := by
        rw [← ha nop, List.getD_eq_getElem?_getD, List.getElem?_eq_getElem hi]
        exact List.getElem_mem hi
      have f1 := hc.full a hm
      have f2 := h1 a hm
      have e1 : decide (a.2.1 < a.1) = false := by rw [decide_eq_false_iff_not]; omega
      have e2 : decide (a.1 < 1) = false := by rw [decide_eq_false_iff_not]; omega
      have e3 : (decide ((0:Int) < (i:Int)) && decide (a.1 ≤ w64 ((l.getD (Int.toNat (w64 ((i:Int) - 1))) ((0:Int), ((0:Int), ()))).2.1 + 1))) = false := by
        by_cases h0 : 0 < i
        · have hw : w64 ((i:Int) - 1) = ((i - 1 : Nat) : Int) := by rw [w64_id (by omega) (by omega)]; omega
          have hi1 : i - 1 < l.length := by omega
          rw [hw, Int.toNat_natCast, List.getD_eq_getElem?_getD, List.getElem?_eq_getElem hi1]
          have hq := h1 l[i - 1] (List.getElem_mem hi1)
          have hfq := hc.full l[i - 1] (List.getElem_mem hi1)
          have hp := List.pairwise_iff_getElem.mp hc.rise (i - 1) i hi1 hi (by omega)
          have hae : l[i] = a := by
            have := ha l[i]
            rw [List.getD_eq_getElem?_getD, List.getElem?_eq_getElem hi] at this
            exact this
          rw [hae] at hp
          simp only [Option.getD_some]
          have hww : w64 (l[i - 1].2.1 + 1) = l[i - 1].2.1 + 1 := w64_id (by omega) (by omega)
          simp only [hww]
          rw [Bool.and_eq_false_iff, decide_eq_false_iff_not, decide_eq_false_iff_not]
          omega
        · have : decide ((0:Int) < (i:Int)) = false := by rw [decide_eq_false_iff_not]; omega
          rw [this, Bool.false_and]
      have g1 : ((decide ((0:Int) ≤ w64 ((i:Int) - 1)) && decide (w64 ((i:Int) - 1) < ((l.length : Nat) : Int))) || !(decide ((0:Int) < (i:Int)) && true)) = true := by
        by_cases h0 : 0 < i
        · have hw : w64 ((i:Int) - 1) = ((i - 1 : Nat) : Int) := by rw [w64_id (by omega) (by omega)]; omega
          rw [hw, nat_nn, nat_lt]
          simp; omega
        · have : decide ((0:Int) < (i:Int)) = false := by rw [decide_eq_false_iff_not]; omega
          rw [this]; simp
      simp only [B4_0, nat_lt, nat_nn, hi, decide_true, Bool.and_self, Bool.true_or, cond_true, Int.toNat_natCast, ha, e1, e2, Bool.or_self, Bool.not_false, w64_nat (show i < 9223372036854775807 by omega)]
      rw [g1, e3]
      simp only [cond_true, cond_false, Bool.or_self])
    (fun b => by simp only [B4_0, Int.lt_irrefl, decide_false, cond_false]) (by omega)
  rw [foldS_const] at h
  exact h

/-- what a part's numbers are laid as -/
def rng (most : Int) (p : Pr) : Pr := nrm (subs most p)

theorem joined_one (x : Pr) : joined [x] = [nrm x] := rfl

theorem F6_part {s : List UInt8} {most : Int} (hs : s.length ≤ 1100000) (ha : ∀ b ∈ s, b.toNat < 128) (hm : 0 ≤ most ∧ most ≤ 4294967295) (hok : (two (s.map sing)).2.2.2 = true) (hr : (two (s.map sing)).2.2.1 = [])
    (hn : most = 0 → neg ((two (s.map sing)).1, (two (s.map sing)).2.1, ()) = false) :
    F6 ((s, most, ()), ()) = some (([rng most ((two (s.map sing)).1, (two (s.map sing)).2.1, ())], 0, 0, ()), ()) := by
  rw [F6_set s most hs]
  unfold set
  rw [if_neg (by omega), lets_ascii _ _ (Nat.le_refl _) ha, prs_alone _ _ _ hok hr]
  unfold resR
  have hb : (decide (most = 0) && [(((two (s.map sing)).1, (two (s.map sing)).2.1, ()) : Pr)].any neg) = false := by
    by_cases h0 : most = 0
    · rw [List.any_cons, hn h0]; simp
    · simp [h0]
  rw [if_neg (by simp), if_neg (by simp)]
  simp only
  rw [hb]
  rfl

abbrev R41 : Type := ((Int × List Pr × Bool × Unit) × Unit) ⊕ ((Unit × Unit) × Unit)

theorem L4b_eq (s : List UInt8) (most n : Int) (l OUT : List Pr) (L : Nat) (hs : s.length ≤ 1100000) (ha : ∀ b ∈ s, b.toNat < 128) (hm : 0 ≤ most ∧ most ≤ 4294967295) (hn : most = 0 → OUT.any neg = false)
    (hp : prs L ((s.map sing).length + 1) (s.map sing) [] = (((), 0, 0, ()), (OUT, ()))) :
    L4_1 ((s, most, n, l, false, (0:Int), (0:Int), ()), ()) = some (.inl ((n, l, OUT.any (fun p => inn n (rng most p)), ()), ())) := by
  have hF := FUEL_big
  obtain ⟨r, h1, h2⟩ := loop_ind (f := B4_1) (p := ((s, most, n, l, false, (0:Int), (0:Int), ()), ()))
    (fun p => ∃ (i fr m : Nat) (is : Bool) (out : List Pr), p = ((s, most, n, l, is, (fr : Int), (i : Int), ()), ()) ∧ ((i ≤ s.length ∧ fr ≤ i ∧ (∀ b ∈ (s.drop fr).take (i - fr), b ≠ 44) ∧ s.length - fr < m ∧ prs L m ((s.drop fr).map sing) out = (((), 0, 0, ()), (OUT, ())) ∧ (∀ p ∈ out, okv p.1 ∧ okv p.2.1) ∧ is = out.any (fun p => inn n (rng most p))) ∨ (i = s.length + 1 ∧ is = OUT.any (fun p => inn n (rng most p)))))
    (fun p => ((s.length : Int) + 2 - p.1.2.2.2.2.2.2.1).toNat)
    (fun r => r = .inl ((n, l, OUT.any (fun p => inn n (rng most p)), ()), ()))
    (fun p hp => by
      obtain ⟨i, fr, m, is, out, rfl, h⟩ := hp
      rcases h with ⟨hi, hfi, hno, hmm, hpr, hov, his⟩ | ⟨hi, his⟩
      · left
        have c0 : decide ((i : Int) ≤ ((s.length : Nat) : Int)) = true := by rw [decide_eq_true_eq]; omega
        have c1 : ((true && decide (i < s.length)) || !(decide (i < s.length))) = true := by cases decide (i < s.length) <;> rfl
        by_cases hgo : i < s.length ∧ s.getD i 0 ≠ 44
        · have c2 : (decide (i < s.length) && !decide (s.getD i 0 = 44)) = true := by
            rw [Bool.and_eq_true, Bool.not_eq_true', decide_eq_true_eq, decide_eq_false_iff_not]; exact hgo
          refine ⟨((s, most, n, l, is, (fr : Int), ((i + 1 : Nat) : Int), ()), ()), ?_, ⟨i + 1, fr, m, is, out, rfl, .inl ⟨by omega, by omega, fun b hb => ?_, hmm, hpr, hov, his⟩⟩, by simp only; omega⟩
          · simp only [B4_1, c0, cond_true, nat_lt, nat_nn, c1, Int.toNat_natCast, c2, Option.bind_some, w64_nat (show i < 9223372036854775807 by omega)]
          · rw [show i + 1 - fr = (i - fr) + 1 by omega, List.take_succ_eq_append_getElem (by rw [List.length_drop]; omega)] at hb
            rcases List.mem_append.mp hb with hb | hb
            · exact hno b hb
            · rw [List.mem_singleton.mp hb, List.getElem_drop]
              have := hgo.2
              rw [List.getD_eq_getElem?_getD, List.getElem?_eq_getElem hgo.1] at this
              simp only [show fr + (i - fr) = i by omega]
              exact this
        · have c2 : (decide (i < s.length) && !decide (s.getD i 0 = 44)) = false := by
            rw [← Bool.not_eq_true, Bool.and_eq_true, Bool.not_eq_true', decide_eq_true_eq, decide_eq_false_iff_not]; exact hgo
          have c3 : ((true && decide ((fr : Int) ≤ (i : Int))) && true) = true := by
            rw [Bool.true_and, Bool.and_true, decide_eq_true_eq]; omega
          obtain ⟨m, rfl⟩ : ∃ x, m = x + 1 := ⟨m - 1, by omega⟩
          -- the part and what is behind it
          have hsp : (s.drop fr).map sing = ((s.drop fr).take (i - fr)).map sing ++ (s.drop i).map sing := by
            rw [← List.map_append]
            congr 1
            have : s.drop i = (s.drop fr).drop (i - fr) := by rw [List.drop_drop, show fr + (i - fr) = i by omega]
            rw [this, List.take_append_drop]
          have hedge : Edge ((s.drop i).map sing) := by
            rcases Nat.lt_or_ge i s.length with hlt | hge
            · right
              have hg : s.getD i 0 = 44 := Classical.not_not.mp fun h => hgo ⟨hlt, h⟩
              rw [List.drop_eq_getElem_cons hlt]
              rw [List.getD_eq_getElem?_getD, List.getElem?_eq_getElem hlt] at hg
              have hg' : s[i] = 44 := hg
              rw [List.map_cons, hg']
              rfl
            · left
              rw [List.drop_eq_nil_of_le hge]; rfl
          have hnc : ∀ c ∈ ((s.drop fr).take (i - fr)).map sing, c ≠ [44] := fun c hc => by
            obtain ⟨b, hb, rfl⟩ := List.mem_map.mp hc
            intro he
            injection he with he
            exact hno b hb he
          have hlen : ((s.drop fr).map sing).length < m + 1 := by rw [List.length_map, List.length_drop]; omega
          have hc0 : (prs L (m + 1) ((s.drop fr).map sing) out).1.2.2.1 = 0 := by rw [hpr]
          have hgood := prs_good L (m + 1) _ out hlen hc0 hov
          rw [hpr] at hgood
          rw [hsp] at hc0 hpr
          obtain ⟨k1, k2, k3⟩ := prs_part L m _ _ out hedge hnc hc0
          rw [hpr] at k3
          generalize hpc : (s.drop fr).take (i - fr) = pc at *
          have hpl : pc.length ≤ s.length := by rw [← hpc, List.length_take, List.length_drop]; omega
          have hpa : ∀ b ∈ pc, b.toNat < 128 := fun b hb => by
            rw [← hpc] at hb
            exact ha b (List.mem_of_mem_drop (List.mem_of_mem_take hb))
          -- it is one of the set's parts
          have hin : ((two (pc.map sing)).1, (two (pc.map sing)).2.1, ()) ∈ OUT := by
            have hv := two_okv _ k1
            by_cases hq : (s.drop i).map sing = []
            · rw [if_pos hq] at k3
              injection k3 with _ k3
              injection k3 with k3 _
              rw [k3]; simp
            · rw [if_neg hq] at k3
              have hlt : i < s.length := by
                rcases Nat.lt_or_ge i s.length with h | h
                · exact h
                · rw [List.drop_eq_nil_of_le h] at hq; exact absurd rfl hq
              have hg2 := prs_good L m (((s.drop i).map sing).drop 1) (out ++ [((two (pc.map sing)).1, (two (pc.map sing)).2.1, ())]) (by rw [List.length_drop, List.length_map, List.length_drop]; omega) (by rw [← k3])
                (fun p hp => by
                  rcases List.mem_append.mp hp with h | h
                  · exact hov p h
                  · rw [List.mem_singleton.mp h]; exact hv)
              rw [← k3] at hg2
              exact hg2.2 _ (by simp)
          have hneg : most = 0 → neg ((two (pc.map sing)).1, (two (pc.map sing)).2.1, ()) = false := fun h0 => by
            have := hn h0
            rw [List.any_eq_false] at this
            simpa using this _ hin
          have e6 := F6_part (by omega) hpa hm k1 k2 hneg
          generalize hab : (((two (pc.map sing)).1, (two (pc.map sing)).2.1, ()) : Pr) = ab at *
          have hfs : (is || inn n (rng most ab)) = (out ++ [ab]).any (fun p => inn n (rng most p)) := by
            rw [List.any_append, his]; simp
          have hinn : (is || (decide ((rng most ab).1 ≤ n) && decide (n ≤ (rng most ab).2.1))) = (out ++ [ab]).any (fun p => inn n (rng most p)) := hfs
          have hgd : ∀ d, ([rng most ab] : List Pr).getD 0 d = rng most ab := fun d => rfl
          refine ⟨((s, most, n, l, (out ++ [ab]).any (fun p => inn n (rng most p)), ((i + 1 : Nat) : Int), ((i + 1 : Nat) : Int), ()), ()), ?_, ?_, by simp only; omega⟩
          · simp only [B4_1, c0, cond_true, nat_lt, nat_nn, c1, Int.toNat_natCast, c2, cond_false, c3, hpc]
            rw [e6]
            simp only [Option.bind_some, List.length_cons, List.length_nil, Nat.zero_add, hgd, hinn, show decide (((1 : Nat) : Int) = 1) = true from rfl, show decide ((0:Int) < ((1 : Nat) : Int)) = true from rfl, decide_true, Bool.not_true, Bool.or_self, cond_false, cond_true, Bool.true_or, w64_nat (show i < 9223372036854775807 by omega)]
          · by_cases hq : (s.drop i).map sing = []
            · rw [if_pos hq] at k3
              injection k3 with _ k3
              injection k3 with k3 _
              have hie : i = s.length := by
                have := congrArg List.length hq
                rw [List.length_map, List.length_drop, List.length_nil] at this
                omega
              exact ⟨i + 1, i + 1, 0, _, [], rfl, .inr ⟨by omega, by rw [← k3]⟩⟩
            · rw [if_neg hq] at k3
              have hlt : i < s.length := by
                rcases Nat.lt_or_ge i s.length with h | h
                · exact h
                · rw [List.drop_eq_nil_of_le h] at hq; exact absurd rfl hq
              have hdd : ((s.drop i).map sing).drop 1 = (s.drop (i + 1)).map sing := by rw [← List.map_drop, List.drop_drop]
              rw [hdd] at k3
              refine ⟨i + 1, i + 1, m, _, out ++ [ab], rfl, .inl ⟨by omega, Nat.le_refl _, fun b hb => (by rw [Nat.sub_self, List.take_zero] at hb; cases hb), by omega, k3.symm, fun p hp => ?_, rfl⟩⟩
              rcases List.mem_append.mp hp with h | h
              · exact hov p h
              · rw [List.mem_singleton.mp h, ← hab]; exact two_okv _ k1
      · right
        subst hi
        have c0 : decide (((s.length + 1 : Nat) : Int) ≤ ((s.length : Nat) : Int)) = false := by rw [decide_eq_false_iff_not]; omega
        refine ⟨_, ?_, rfl⟩
        simp only [B4_1, c0, cond_false, his])
    ⟨0, 0, (s.map sing).length + 1, false, [], rfl, .inl ⟨Nat.zero_le _, Nat.le_refl _, fun b hb => (by rw [Nat.sub_self, List.take_zero] at hb; cases hb), by rw [List.length_map]; omega, hp, fun p h => (by cases h), rfl⟩⟩ (by simp only; omega)
  subst h2
  exact h1

theorem any_mem (n : Int) (l : List Pr) : l.any (inn n) = true ↔ mem l n := by
  rw [List.any_eq_true]
  constructor
  · rintro ⟨p, hp, h⟩
    unfold inn at h
    rw [Bool.and_eq_true, decide_eq_true_eq, decide_eq_true_eq] at h
    exact ⟨p, hp, h⟩
  · rintro ⟨p, hp, h⟩
    refine ⟨p, hp, ?_⟩
    unfold inn
    rw [Bool.and_eq_true, decide_eq_true_eq, decide_eq_true_eq]
    exact h

theorem law4 (s : List UInt8) (most n : Int) (hs : s.length ≤ 1100000) : F4 ((s, most, n, ()), ()) = some (true, ()) := by
  have e5 := F5_set s most hs
  have hl := set_len s most
  by_cases h : (set s most).2.2.1 = 0
  · obtain ⟨ha, OUT, h1, h2, h3, h4, h5⟩ := set_good h
    have hgood := prs_good (s.map sing).length ((s.map sing).length + 1) (s.map sing) [] (Nat.lt_succ_self _) (by rw [h1]) (fun p h => by cases h)
    rw [h1] at hgood
    have hfull : ∀ p ∈ (OUT.map (subs most)).map nrm, p.1 ≤ p.2.1 := fun p hp => by
      obtain ⟨q, _, rfl⟩ := List.mem_map.mp hp
      exact nrm_full q
    obtain ⟨j1, j2⟩ := layall_ok ((OUT.map (subs most)).map nrm) [] Can.nil hfull
    have hsub : ∀ x, okv x → (most = 0 → 0 ≤ x) → 1 ≤ sub most x ∧ sub most x ≤ 4294967295 := fun x hx h0 => by
      unfold sub
      unfold okv at hx
      split
      · refine ⟨?_, h3.2⟩
        rcases Int.lt_or_le 0 most with h | h
        · omega
        · have : most = 0 := by omega
          have := h0 this
          omega
      · omega
    have hval : ∀ p ∈ (OUT.map (subs most)).map nrm, 1 ≤ p.1 ∧ p.2.1 ≤ 4294967295 := fun p hp => by
      obtain ⟨q, hq, rfl⟩ := List.mem_map.mp hp
      obtain ⟨o, ho, rfl⟩ := List.mem_map.mp hq
      have hv := hgood.1 o ho
      have hng : most = 0 → 0 ≤ o.1 ∧ 0 ≤ o.2.1 := fun h0 => by
        have := h4 h0
        rw [List.any_eq_false] at this
        have := this o ho
        unfold neg at this
        simp at this
        omega
      have g1 := hsub o.1 hv.1 (fun h0 => (hng h0).1)
      have g2 := hsub o.2.1 hv.2 (fun h0 => (hng h0).2)
      simp only [subs]
      generalize sub most o.1 = x at *
      generalize sub most o.2.1 = y at *
      simp only [nrm]
      by_cases c1 : y < x <;> by_cases c2 : x < y <;> simp only [c1, c2, ↓reduceIte] <;> omega
    have hcan : Can (set s most).1 := by rw [h5]; exact j1
    have hjm : ∀ x, mem (set s most).1 x ↔ mem ((OUT.map (subs most)).map nrm) x := fun x => by
      rw [h5]
      show mem (List.foldl lays [] _) x ↔ _
      rw [j2 x]
      exact ⟨fun h => h.elim (fun h => absurd h (mem_nil x)) id, .inr⟩
    have hb : ∀ p ∈ (set s most).1, 1 ≤ p.1 ∧ p.2.1 ≤ 4294967295 := fun p hp => by
      have f := hcan.full p hp
      obtain ⟨q1, m1, i1⟩ := (hjm p.1).mp ⟨p, hp, Int.le_refl _, f⟩
      obtain ⟨q2, m2, i2⟩ := (hjm p.2.1).mp ⟨p, hp, f, Int.le_refl _⟩
      have := hval q1 m1
      have := hval q2 m2
      unfold ins at i1 i2
      omega
    have e4 := L4a_eq s most n (set s most).1 hl hcan hb
    have e4b := L4b_eq s most n (set s most).1 OUT (s.map sing).length hs ha h3 h4 h1
    have e9 := F9_eq (set s most).1 n hl
    have hany : (set s most).1.any (inn n) = OUT.any (fun p => inn n (rng most p)) := by
      rw [Bool.eq_iff_iff, any_mem, hjm n, ← any_mem, List.any_map, List.any_map]
      rfl
    rw [hany] at e9
    generalize OUT.any (fun p => inn n (rng most p)) = is at *
    generalize set s most = r at *
    obtain ⟨l, a, b, u⟩ := r
    cases u
    simp only at h e4 e4b e9
    subst h
    simp only [F4, e5, e4, e4b, e9, live7, Option.bind_some, decide_true, Bool.not_true, cond_false, cond_true, BEq.rfl]
  · have hb := set_bad h
    generalize set s most = r at *
    obtain ⟨l, a, b, u⟩ := r
    cases u
    simp only at h hb
    subst hb
    have e9 := F9_eq [] n (by simp)
    simp only [F4, e5, live7, Option.bind_some, h, decide_false, Bool.not_false, cond_true, Bool.true_and, e9, List.length_nil, List.any_nil]
    rfl

end Go.Bd
