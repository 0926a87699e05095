/- The matcher's walk. -/
import Derived.Test.YtfajnpikmhnnlaaDoorGlM
namespace Go.Gl
open Go Go.Ev
set_option maxRecDepth 100000

theorem getD_mid {α : Type} {a b : List α} {c d : α} {i : Nat} (h : i = a.length) : (a ++ c :: b).getD i d = c := by
  subst h
  simp [List.getD_eq_getElem?_getD]

abbrev St26 := ((List UInt8) × (List UInt8) × Int × Int × Unit × Unit × Unit) × ((Int × Int × Unit) × (Int × Int × Unit) × Unit)

def tail26 (pat name : List UInt8) (mp mn fp fn : Int) : Option (St26 ⊕ ((Bool × Unit) × Unit)) :=
  cond ((decide (0 ≤ fp) && decide (fn < ((name.length : Nat) : Int))) && !decide (List.getD name fn.toNat 0 = 47))
    (some (Sum.inl ((pat, name, fp, w64 (fn + 1), (), (), ()), ((mp, mn, ()), (fp, w64 (fn + 1), ()), ()))))
    (cond (decide (0 ≤ mp) && decide (mn < ((name.length : Nat) : Int)))
      (some (Sum.inl ((pat, name, mp, w64 (mn + 1), (), (), ()), ((mp, w64 (mn + 1), ()), ((-1 : Int), fn, ()), ()))))
      (some (Sum.inr ((false, ()), ()))))

theorem b26_tail {pat name : List UInt8} {i n : Nat} {mp mn fp fn : Int} (hfn : 0 ≤ fn) (h42 : ¬ (i < pat.length ∧ pat.getD i 0 = 42)) (h37 : ¬ (i < pat.length ∧ pat.getD i 0 = 37)) (hend : ¬ (i = pat.length ∧ n = name.length))
    (hlit : ¬ ((i < pat.length ∧ n < name.length) ∧ pat.getD i 0 = name.getD n 0)) :
    B26_0 ((pat, name, (i : Int), (n : Int), (), (), ()), ((mp, mn, ()), (fp, fn, ()), ())) = tail26 pat name mp mn fp fn := by
  have d0 : decide ((0 : Int) ≤ (i : Int)) = true := by simp
  have d1 : decide ((0 : Int) ≤ (n : Int)) = true := by simp
  have d2 : decide ((0 : Int) ≤ fn) = true := by simpa using hfn
  have e42 : (decide ((i : Int) < ((pat.length : Nat) : Int)) && decide (pat.getD i 0 = 42)) = false := by
    rw [← Bool.decide_and, decide_eq_false_iff_not]; intro h; exact h42 ⟨by omega, h.2⟩
  have e37 : (decide ((i : Int) < ((pat.length : Nat) : Int)) && decide (pat.getD i 0 = 37)) = false := by
    rw [← Bool.decide_and, decide_eq_false_iff_not]; intro h; exact h37 ⟨by omega, h.2⟩
  have eend : (decide ((i : Int) = ((pat.length : Nat) : Int)) && decide ((n : Int) = ((name.length : Nat) : Int))) = false := by
    rw [← Bool.decide_and, decide_eq_false_iff_not]; intro h; exact hend ⟨by omega, by omega⟩
  have elit : ((decide ((i : Int) < ((pat.length : Nat) : Int)) && decide ((n : Int) < ((name.length : Nat) : Int))) && decide (pat.getD i 0 = name.getD n 0)) = false := by
    rw [← Bool.decide_and, ← Bool.decide_and, decide_eq_false_iff_not]; intro h; exact hlit ⟨⟨by omega, by omega⟩, h.2⟩
  simp only [B26_0, Int.toNat_natCast, d0, d1, d2, e42, e37, eend, elit, Bool.true_and, Bool.or_not_self, cond_true, cond_false]
  have g1 : ∀ x y : Bool, (x || !(x && y)) = true := by decide
  have g2 : ∀ x y : Bool, (y || !(x && y)) = true := by decide
  simp only [g1, g2, cond_true]
  rfl

theorem b26_many {pat name : List UInt8} {i n : Nat} {mp mn fp fn : Int} (h1 : i < pat.length) (h : pat.getD i 0 = 42) :
    B26_0 ((pat, name, (i : Int), (n : Int), (), (), ()), ((mp, mn, ()), (fp, fn, ()), ())) = some (Sum.inl ((pat, name, w64 (i + 1), (n : Int), (), (), ()), ((w64 (i + 1), (n : Int), ()), ((-1 : Int), 0, ()), ()))) := by
  have d0 : decide ((0 : Int) ≤ (i : Int)) = true := by simp
  have e1 : decide ((i : Int) < ((pat.length : Nat) : Int)) = true := by simp; omega
  simp only [B26_0, Int.toNat_natCast, d0, e1, h, decide_true, Bool.true_and, Bool.or_not_self, cond_true]

theorem b26_few {pat name : List UInt8} {i n : Nat} {mp mn fp fn : Int} (h1 : i < pat.length) (h : pat.getD i 0 = 37) :
    B26_0 ((pat, name, (i : Int), (n : Int), (), (), ()), ((mp, mn, ()), (fp, fn, ()), ())) = some (Sum.inl ((pat, name, w64 (i + 1), (n : Int), (), (), ()), ((mp, mn, ()), (w64 (i + 1), (n : Int), ()), ()))) := by
  have d0 : decide ((0 : Int) ≤ (i : Int)) = true := by simp
  have e1 : decide ((i : Int) < ((pat.length : Nat) : Int)) = true := by simp; omega
  have e2 : decide ((37 : UInt8) = 42) = false := by decide
  simp only [B26_0, Int.toNat_natCast, d0, e1, h, e2, decide_true, Bool.true_and, Bool.or_not_self, cond_true, cond_false]

theorem b26_end {pat name : List UInt8} {mp mn fp fn : Int} :
    B26_0 ((pat, name, (pat.length : Int), (name.length : Int), (), (), ()), ((mp, mn, ()), (fp, fn, ()), ())) = some (Sum.inr ((true, ()), ())) := by
  have e1 : decide (((pat.length : Nat) : Int) < ((pat.length : Nat) : Int)) = false := by simp
  simp only [B26_0, e1, decide_true, Bool.and_false, Bool.false_and, Bool.not_false, Bool.or_true, Bool.and_self, cond_true, cond_false]

theorem b26_lit {pat name : List UInt8} {i n : Nat} {mp mn fp fn : Int} (h1 : i < pat.length) (h2 : n < name.length) (h : pat.getD i 0 = name.getD n 0) (h42 : name.getD n 0 ≠ 42) (h37 : name.getD n 0 ≠ 37) :
    B26_0 ((pat, name, (i : Int), (n : Int), (), (), ()), ((mp, mn, ()), (fp, fn, ()), ())) = some (Sum.inl ((pat, name, w64 (i + 1), w64 (n + 1), (), (), ()), ((mp, mn, ()), (fp, fn, ()), ()))) := by
  have d0 : decide ((0 : Int) ≤ (i : Int)) = true := by simp
  have d1 : decide ((0 : Int) ≤ (n : Int)) = true := by simp
  have e1 : decide ((i : Int) < ((pat.length : Nat) : Int)) = true := by simp; omega
  have e2 : decide ((n : Int) < ((name.length : Nat) : Int)) = true := by simp; omega
  have e3 : decide (name.getD n 0 = 42) = false := by simpa using h42
  have e4 : decide (name.getD n 0 = 37) = false := by simpa using h37
  have e5 : decide ((i : Int) = ((pat.length : Nat) : Int)) = false := by simp; omega
  simp only [B26_0, Int.toNat_natCast, d0, d1, e1, e2, h, e3, e4, e5, decide_true, Bool.true_and, Bool.false_and, Bool.or_not_self, Bool.true_or, Bool.and_self, cond_true, cond_false]

/-- What a run of the loop knows. -/
def Inv26 (pat name : List UInt8) (p : St26) : Prop :=
  ∃ (A G L P B H U : List UInt8) (mn fw : Bool) (i n : Nat) (mp mq fp fq : Int), Inv pat name A G L P B H U mn fw ∧ p = ((pat, name, (i : Int), (n : Int), (), (), ()), ((mp, mq, ()), (fp, fq, ()), ())) ∧
    i = A.length + G.length + L.length ∧ n = B.length + H.length + L.length ∧ (mn = true → mp = A.length ∧ mq = B.length) ∧ (mn = false → mp = -1 ∧ mq = 0) ∧ (fw = true → fp = ((A.length + G.length : Nat) : Int) ∧ fq = ((B.length + H.length : Nat) : Int)) ∧
    (fw = false → fp = -1 ∧ 0 ≤ fq ∧ fq ≤ name.length)

def M26 (p : St26) : Nat := (((((205 : Int) - p.2.1.1) * 256 + (205 - p.2.1.2.1)) * 256 + (205 - p.2.2.1.1)) * 256 + (205 - p.2.2.1.2.1)) * 256 + (205 - p.1.2.2.1) |>.toNat

theorem step26 {pat name : List UInt8} (hp : pat.length ≤ 200) (hnm : name.length ≤ 200) (p : St26) (hI : Inv26 pat name p) :
    (∃ q, B26_0 p = some (Sum.inl q) ∧ Inv26 pat name q ∧ M26 q < M26 p) ∨ ∃ r, B26_0 p = some (Sum.inr r) ∧ ∃ b, r = ((b, ()), ()) ∧ (b = true ↔ Mt pat name) := by
  obtain ⟨A, G, L, P, B, H, U, mn, fw, i, n, mp, mq, fp, fq, inv, rfl, hi, hn, m1, m2, f1, f2⟩ := hI
  have lp : pat.length = A.length + G.length + L.length + P.length := by rw [inv.pat_eq]; simp; omega
  have ln : name.length = B.length + H.length + L.length + U.length := by rw [inv.name_eq]; simp; omega
  have gp : ∀ c P', P = c :: P' → i < pat.length ∧ pat.getD i 0 = c := by
    intro c P' h
    subst h
    refine ⟨by simp at lp; omega, ?_⟩
    rw [inv.pat_eq, ← List.append_assoc, ← List.append_assoc]
    exact getD_mid (by simp; omega)
  have gn : ∀ c U', U = c :: U' → n < name.length ∧ name.getD n 0 = c := by
    intro c P' h
    subst h
    refine ⟨by simp at ln; omega, ?_⟩
    rw [inv.name_eq, ← List.append_assoc, ← List.append_assoc]
    exact getD_mid (by simp; omega)
  have hmq : 0 ≤ mq ∧ mq ≤ 200 ∧ -1 ≤ mp ∧ mp ≤ i := by
    cases mn
    · have := m2 rfl; omega
    · have := m1 rfl; omega
  have hfq : 0 ≤ fq ∧ fq ≤ 200 ∧ -1 ≤ fp ∧ fp ≤ i := by
    cases fw
    · have := f2 rfl; omega
    · have := f1 rfl; omega
  have wi : i < 200 → w64 ((i : Int) + 1) = ((i + 1 : Nat) : Int) := fun h => by rw [w64_id (by omega) (by omega)]; rfl
  have wn : n < 200 → w64 ((n : Int) + 1) = ((n + 1 : Nat) : Int) := fun h => by rw [w64_id (by omega) (by omega)]; rfl
  have wmp : mp ≤ 200 := by omega
  -- the mismatch
  have slow : (¬ Mt P U) → B26_0 ((pat, name, (i : Int), (n : Int), (), (), ()), ((mp, mq, ()), (fp, fq, ()), ())) = tail26 pat name mp mq fp fq →
      (∃ q, B26_0 ((pat, name, (i : Int), (n : Int), (), (), ()), ((mp, mq, ()), (fp, fq, ()), ())) = some (Sum.inl q) ∧ Inv26 pat name q ∧ M26 q < M26 ((pat, name, (i : Int), (n : Int), (), (), ()), ((mp, mq, ()), (fp, fq, ()), ()))) ∨ ∃ r, B26_0 ((pat, name, (i : Int), (n : Int), (), (), ()), ((mp, mq, ()), (fp, fq, ()), ())) = some (Sum.inr r) ∧ ∃ b, r = ((b, ()), ()) ∧ (b = true ↔ Mt pat name) := by
    intro hf ht
    rw [ht]
    unfold tail26
    by_cases hfew : fw = true ∧ ∃ c W, L ++ U = c :: W ∧ c ≠ 47
    · left
      obtain ⟨hfw, c, W, hw, hc⟩ := hfew
      subst hfw
      obtain ⟨e1, e2⟩ := f1 rfl
      have hlen : L.length + U.length = W.length + 1 := by
        have := congrArg List.length hw
        simpa using this
      have gq : name.getD (B.length + H.length) 0 = c := by
        rw [inv.name_eq, hw, ← List.append_assoc]
        exact getD_mid (by simp)
      have c1 : decide ((0 : Int) ≤ fp) = true := by simp; omega
      have c2 : decide (fq < ((name.length : Nat) : Int)) = true := by simp; omega
      have c3 : decide (List.getD name fq.toNat 0 = 47) = false := by
        rw [e2, Int.toNat_natCast, gq]; simpa using hc
      have wq : w64 (fq + 1) = ((B.length + H.length + 1 : Nat) : Int) := by rw [w64_id (by omega) (by omega), e2]; rfl
      rw [c1, c2, c3, wq]
      refine ⟨_, rfl, ⟨A, G, [], L ++ P, B, H ++ [c], W, mn, true, A.length + G.length, B.length + H.length + 1, mp, mq, fp, _, inv.back1 hf hw hc, by rw [e1], by simp, by simp; omega, m1, m2, fun _ => ⟨e1, by simp; omega⟩, fun h => by cases h⟩, ?_⟩
      simp only [M26]; omega
    · have cf : ((decide (0 ≤ fp) && decide (fq < ((name.length : Nat) : Int))) && !decide (List.getD name fq.toNat 0 = 47)) = false := by
        cases hfw : fw
        · have := (f2 hfw).1
          subst this
          rfl
        · obtain ⟨e1, e2⟩ := f1 hfw
          cases hw : L ++ U with
          | nil =>
            have hlen : L.length + U.length = 0 := by
              have := congrArg List.length hw
              simpa using this
            have c2 : decide (fq < ((name.length : Nat) : Int)) = false := by simp; omega
            rw [c2]; simp
          | cons c W =>
            have hc : c = 47 := Classical.byContradiction fun h => hfew ⟨hfw, c, W, hw, h⟩
            have gq : name.getD (B.length + H.length) 0 = c := by
              rw [inv.name_eq, hw, ← List.append_assoc]
              exact getD_mid (by simp)
            have c3 : decide (List.getD name fq.toNat 0 = 47) = true := by
              rw [e2, Int.toNat_natCast, gq]; simpa using hc
            rw [c3]; simp
      have hu : fw = true → ∀ c W, L ++ U = c :: W → c = 47 := fun h1 c W h2 => Classical.byContradiction fun h => hfew ⟨h1, c, W, h2, h⟩
      rw [cf, cond_false]
      by_cases hmany : mn = true ∧ ∃ c W, H ++ (L ++ U) = c :: W
      · left
        obtain ⟨hmn, c, W, hw⟩ := hmany
        subst hmn
        obtain ⟨e1, e2⟩ := m1 rfl
        have hlen : H.length + (L.length + U.length) = W.length + 1 := by
          have := congrArg List.length hw
          simpa using this
        have c1 : decide ((0 : Int) ≤ mp) = true := by simp; omega
        have c2 : decide (mq < ((name.length : Nat) : Int)) = true := by simp; omega
        have wq : w64 (mq + 1) = ((B.length + 1 : Nat) : Int) := by rw [w64_id (by omega) (by omega), e2]; rfl
        rw [c1, c2, wq]
        refine ⟨_, rfl, ⟨A, [], [], G ++ (L ++ P), B ++ [c], [], W, true, false, A.length, B.length + 1, mp, _, -1, fq, inv.back2 hf hu hw, by rw [e1], by simp, by simp, fun _ => ⟨e1, by simp⟩, fun h => (by cases h), fun h => (by cases h), fun _ => ⟨rfl, hfq.1, ?_⟩⟩, ?_⟩
        · cases hfw : fw
          · exact (f2 hfw).2.2
          · have := (f1 hfw).2; omega
        · simp only [M26]; omega
      · right
        have cm : (decide (0 ≤ mp) && decide (mq < ((name.length : Nat) : Int))) = false := by
          cases hmn : mn
          · have := (m2 hmn).1
            subst this
            rfl
          · obtain ⟨e1, e2⟩ := m1 hmn
            cases hw : H ++ (L ++ U) with
            | nil =>
              have hlen : H.length + (L.length + U.length) = 0 := by
                have := congrArg List.length hw
                simpa using this
              have c2 : decide (mq < ((name.length : Nat) : Int)) = false := by simp; omega
              rw [c2]; simp
            | cons c W => exact absurd ⟨hmn, c, W, hw⟩ hmany
        rw [cm]
        refine ⟨_, rfl, false, rfl, fun h => (by cases h), fun h => absurd h (inv.fail hf hu fun hmn => ?_)⟩
        cases hw : H ++ (L ++ U) with
        | nil => rfl
        | cons c W => exact absurd ⟨hmn, c, W, hw⟩ hmany
  cases hP : P with
  | nil =>
    have hil : i = pat.length := by rw [hP] at lp; simp at lp; omega
    cases hU : U with
    | nil =>
      right
      have hnl : n = name.length := by rw [hU] at ln; simp at ln; omega
      rw [hil, hnl]
      refine ⟨_, b26_end, true, rfl, fun _ => inv.whole (by rw [hP, hU]; rfl), fun _ => rfl⟩
    | cons d U' =>
      have h1 := (gn d U' hU).1
      refine slow (by rw [hP, hU]; intro h; cases h) (b26_tail hfq.1 ?_ ?_ ?_ ?_) <;> omega
  | cons c P' =>
    obtain ⟨g1, g2⟩ := gp c P' hP
    by_cases h42 : c = 42
    · left
      subst h42
      rw [b26_many g1 g2, wi (by omega)]
      have inv' : Inv pat name A G L (42 :: P') B H U mn fw := by rw [← hP]; exact inv
      refine ⟨_, rfl, ⟨_, _, _, _, _, _, _, _, _, i + 1, n, _, _, -1, 0, inv'.many, rfl, by simp; omega, by simp; omega, fun _ => ⟨by simp; omega, by simp; omega⟩, fun h => (by cases h), fun h => (by cases h), fun _ => ⟨rfl, by omega, by omega⟩⟩, ?_⟩
      simp only [M26]; omega
    · by_cases h37 : c = 37
      · left
        subst h37
        rw [b26_few g1 g2, wi (by omega)]
        have inv' : Inv pat name A G L (37 :: P') B H U mn fw := by rw [← hP]; exact inv
        refine ⟨_, rfl, ⟨_, _, _, _, _, _, _, _, _, i + 1, n, _, _, _, _, inv'.few1, rfl, by simp; omega, by simp; omega, m1, m2, fun _ => ⟨by simp; omega, by simp; omega⟩, fun h => (by cases h)⟩, ?_⟩
        simp only [M26]; omega
      · cases hU : U with
        | nil =>
          have hnl : n = name.length := by rw [hU] at ln; simp at ln; omega
          refine slow ?_ (b26_tail hfq.1 (by rw [g2]; exact fun h => h42 h.2) (by rw [g2]; exact fun h => h37 h.2) (by omega) (by omega))
          rw [hP, hU]
          exact not_mt (fun _ h => h42 (List.cons.inj h).1) (fun _ h => h37 (List.cons.inj h).1) (fun h => by cases h.1) (fun _ _ _ _ h => by cases h)
        | cons d U' =>
          obtain ⟨g3, g4⟩ := gn d U' hU
          by_cases hcd : c = d
          · left
            subst hcd
            rw [b26_lit g1 g3 (by rw [g2, g4]) (by rw [g4]; exact h42) (by rw [g4]; exact h37), wi (by omega), wn (by omega)]
            have inv' : Inv pat name A G L (c :: P') B H (c :: U') mn fw := by rw [← hP, ← hU]; exact inv
            refine ⟨_, rfl, ⟨_, _, _, _, _, _, _, _, _, i + 1, n + 1, _, _, _, _, inv'.step ⟨h42, h37⟩, rfl, by simp; omega, by simp; omega, m1, m2, f1, f2⟩, ?_⟩
            simp only [M26]; omega
          · refine slow ?_ (b26_tail hfq.1 (by rw [g2]; exact fun h => h42 h.2) (by rw [g2]; exact fun h => h37 h.2) (by omega) (by rw [g2, g4]; exact fun h => hcd h.2))
            rw [hP, hU]
            exact not_mt (fun _ h => h42 (List.cons.inj h).1) (fun _ h => h37 (List.cons.inj h).1) (fun h => by cases h.1) (fun _ _ _ h1 h2 => hcd ((List.cons.inj h1).1.trans (List.cons.inj h2).1.symm))

theorem F26_eq {pat name : List UInt8} (hp : pat.length ≤ 200) (hnm : name.length ≤ 200) : ∃ b, F26 ((pat, name, ()), ()) = some (b, ()) ∧ (b = true ↔ Mt pat name) := by
  obtain ⟨r, h1, b, rfl, h2⟩ := loop_ind (f := B26_0) (Inv26 pat name) M26 (fun r => ∃ b, r = ((b, ()), ()) ∧ (b = true ↔ Mt pat name)) (step26 hp hnm)
    (p := ((pat, name, 0, 0, (), (), ()), ((-1, 0, ()), (-1, 0, ()), ())))
    ⟨[], [], [], pat, [], [], name, false, false, 0, 0, -1, 0, -1, 0, Inv.start, rfl, rfl, rfl, fun h => (by cases h), fun _ => ⟨rfl, rfl⟩, fun h => (by cases h), fun _ => ⟨rfl, by omega, by omega⟩⟩ (by unfold FUEL M26; simp)
  refine ⟨b, ?_, h2⟩
  have h1' : L26_0 ((pat, name, 0, 0, (), (), ()), ((-1, 0, ()), (-1, 0, ()), ())) = some ((b, ()), ()) := h1
  simp only [F26]
  rw [h1']
  rfl

end Go.Gl
