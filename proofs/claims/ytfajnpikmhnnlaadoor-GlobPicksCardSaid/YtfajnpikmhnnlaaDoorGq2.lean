/- Matching of patterns, in plain Lean. -/
import Derived.Test.YtfajnpikmhnnlaaDoorGq1
namespace Go.Gl
open Go Go.Ev
set_option maxRecDepth 100000

/-- What one byte of a pattern stands for. -/
def One (c : UInt8) (t : List UInt8) : Prop := if c = 42 then True else if c = 37 then 47 ∉ t else t = [c]

def Mt : List UInt8 → List UInt8 → Prop
  | [], s => s = []
  | c :: p, s => ∃ t u, s = t ++ u ∧ One c t ∧ Mt p u

theorem mt_append : ∀ {p q s : List UInt8}, Mt (p ++ q) s ↔ ∃ t u, s = t ++ u ∧ Mt p t ∧ Mt q u
  | [], q, s => ⟨fun h => ⟨[], s, rfl, rfl, h⟩, fun ⟨t, u, h1, h2, h3⟩ => by
      have h2' : t = [] := h2
      subst h2' h1; exact h3⟩
  | c :: p, q, s => by
    constructor
    · rintro ⟨t, u, rfl, h1, h2⟩
      obtain ⟨v, w, rfl, h3, h4⟩ := mt_append.1 h2
      exact ⟨t ++ v, w, by simp, ⟨t, v, rfl, h1, h3⟩, h4⟩
    · rintro ⟨_, w, rfl, ⟨t, v, rfl, h1, h3⟩, h4⟩
      exact ⟨t, v ++ w, by simp, h1, mt_append.2 ⟨v, w, rfl, h3, h4⟩⟩

def Lit (l : List UInt8) : Prop := ∀ c ∈ l, c ≠ 42 ∧ c ≠ 37

theorem lit_mt : ∀ {l s : List UInt8}, Lit l → (Mt l s ↔ s = l)
  | [], s, _ => Iff.rfl
  | c :: l, s, h => by
    have hc := h c (by simp)
    have ih := fun {s} => lit_mt (s := s) (fun c hc => h c (List.mem_cons_of_mem _ hc) : Lit l)
    constructor
    · rintro ⟨t, u, rfl, h1, h2⟩
      rw [ih] at h2
      subst h2
      simp only [One, if_neg hc.1, if_neg hc.2] at h1
      subst h1; rfl
    · rintro rfl
      exact ⟨[c], l, rfl, by simp [One, if_neg hc.1, if_neg hc.2], ih.2 rfl⟩

theorem mt_count : ∀ {p s : List UInt8}, 42 ∉ p → Mt p s → s.count 47 = p.count 47
  | [], s, _, h => by
    have h' : s = [] := h
    subst h'; rfl
  | c :: p, s, h0, h => by
    obtain ⟨t, u, rfl, h1, h2⟩ := h
    have ih := mt_count (fun h => h0 (List.mem_cons_of_mem _ h)) h2
    have hc : ¬ c = 42 := fun h => h0 (by simp [h])
    rw [List.count_append, ih]
    by_cases h3 : c = 37
    · subst h3
      simp only [One, if_neg hc, if_true] at h1
      rw [List.count_eq_zero.2 h1, List.count_cons_of_ne (by decide), Nat.zero_add]
    · simp only [One, if_neg hc, if_neg h3] at h1
      subst h1
      rw [show c :: p = [c] ++ p from rfl, List.count_append]

theorem suf_eq {α : Type} {a b n : List α} (h1 : a <:+ n) (h2 : b <:+ n) (h : a.length = b.length) : a = b := by
  obtain ⟨x, hx⟩ := h1
  obtain ⟨y, hy⟩ := h2
  exact (List.append_inj' (hx.trans hy.symm) h).2

theorem suf_le {α : Type} {a b n : List α} (h1 : a <:+ n) (h2 : b <:+ n) (h : a.length ≤ b.length) : a <:+ b :=
  List.suffix_of_suffix_length_le h1 h2 h

/-- What a run of the matcher knows: `A`, `G`, `L`, `P` are the pattern, `B`, `H`, `L`, `U` the name. -/
structure Inv (pat name A G L P B H U : List UInt8) (mn fw : Bool) : Prop where
  pat_eq : pat = A ++ (G ++ (L ++ P))
  name_eq : name = B ++ (H ++ (L ++ U))
  reach : Mt G H
  star : 42 ∉ G
  lit : Lit L
  few : fw = true → ∃ G0, G = G0 ++ [37]
  nofew : fw = false → G = []
  nomany : mn = false → A = [] ∧ B = []
  ahead : ∀ X Y, X ++ Y <:+ H ++ (L ++ U) → Mt G X → Mt (L ++ P) Y → Y.length ≤ (L ++ U).length
  just : Mt pat name ↔ if mn then ∃ V, V <:+ H ++ (L ++ U) ∧ Mt (G ++ (L ++ P)) V else Mt (G ++ (L ++ P)) (H ++ (L ++ U))

variable {pat name A G L P B H U : List UInt8} {mn fw : Bool}

theorem Inv.start : Inv pat name [] [] [] pat [] [] name false false where
  pat_eq := rfl
  name_eq := rfl
  reach := rfl
  star := by simp
  lit := fun c h => by cases h
  few := fun h => by cases h
  nofew := fun _ => rfl
  nomany := fun _ => ⟨rfl, rfl⟩
  ahead := fun X Y h _ _ => by have := h.length_le; simp at this ⊢; omega
  just := by simp

theorem Inv.suf (h : Inv pat name A G L P B H U mn fw) : H ++ (L ++ U) <:+ name := ⟨B, h.name_eq.symm⟩

theorem Inv.suf2 (h : Inv pat name A G L P B H U mn fw) : L ++ U <:+ name := ⟨B ++ H, by rw [h.name_eq]; simp⟩

theorem Inv.suf3 (h : Inv pat name A G L P B H U mn fw) : U <:+ name := ⟨B ++ (H ++ L), by rw [h.name_eq]; simp⟩

/-- No success goes through the place earlier. -/
theorem Inv.ahead' (h : Inv pat name A G L P B H U mn fw) {X Y : List UInt8} (hs : X ++ Y <:+ H ++ (L ++ U)) (h1 : Mt (G ++ L) X) (h2 : Mt P Y) : Y.length ≤ U.length := by
  obtain ⟨t, u, rfl, h3, h4⟩ := mt_append.1 h1
  have := h.ahead t (u ++ Y) (by rw [← List.append_assoc]; exact hs) h3 (mt_append.2 ⟨u, Y, rfl, h4, h2⟩)
  rw [lit_mt h.lit] at h4
  subst h4
  simp at this; omega

theorem Inv.reach' (h : Inv pat name A G L P B H U mn fw) : Mt (G ++ L) (H ++ L) := mt_append.2 ⟨H, L, rfl, h.reach, (lit_mt h.lit).2 rfl⟩

theorem Inv.whole (h : Inv pat name A G L P B H U mn fw) (h1 : Mt P U) : Mt pat name := by
  have : Mt (G ++ (L ++ P)) (H ++ (L ++ U)) := mt_append.2 ⟨H, L ++ U, rfl, h.reach, mt_append.2 ⟨L, U, rfl, (lit_mt h.lit).2 rfl, h1⟩⟩
  rw [h.just]
  cases mn
  · exact this
  · exact ⟨_, List.suffix_refl _, this⟩

theorem Inv.onto (h : Inv pat name A G L P B H U mn fw) (h1 : Mt pat name) : ∃ V, V <:+ H ++ (L ++ U) ∧ Mt (G ++ (L ++ P)) V := by
  rw [h.just] at h1
  cases mn
  · exact ⟨_, List.suffix_refl _, h1⟩
  · exact h1

theorem Inv.many {P' : List UInt8} (h : Inv pat name A G L (42 :: P') B H U mn fw) : Inv pat name (A ++ (G ++ (L ++ [42]))) [] [] P' (B ++ (H ++ L)) [] U true false where
  pat_eq := by rw [h.pat_eq]; simp
  name_eq := by rw [h.name_eq]; simp
  reach := rfl
  star := by simp
  lit := fun c h => by cases h
  few := fun h => by cases h
  nofew := fun _ => rfl
  nomany := fun h => by cases h
  ahead := fun X Y hs _ _ => by have := hs.length_le; simp at this ⊢; omega
  just := by
    constructor
    · intro hm
      obtain ⟨V, hV, h1⟩ := h.onto hm
      rw [← List.append_assoc] at h1
      obtain ⟨t, u, rfl, h2, h3⟩ := mt_append.1 h1
      have hle := h.ahead' hV h2 h3
      obtain ⟨v, w, rfl, _, h4⟩ := h3
      refine ⟨w, ?_, by simpa using h4⟩
      have : v ++ w <:+ U := suf_le (((List.suffix_append _ _).trans hV).trans h.suf) h.suf3 hle
      simpa using (List.suffix_append _ _).trans this
    · rintro ⟨V, hV, h1⟩
      obtain ⟨t, ht⟩ := hV
      exact h.whole ⟨t, V, by simpa using ht.symm, by simp [One], by simpa using h1⟩

theorem Inv.few1 {P' : List UInt8} (h : Inv pat name A G L (37 :: P') B H U mn fw) : Inv pat name A (G ++ (L ++ [37])) [] P' B (H ++ L) U mn true where
  pat_eq := by rw [h.pat_eq]; simp
  name_eq := by rw [h.name_eq]; simp
  reach := by
    rw [← List.append_assoc]
    exact mt_append.2 ⟨H ++ L, [], by simp, h.reach', [], [], rfl, by simp [One], rfl⟩
  star := by
    have h1 := h.star
    have h2 : 42 ∉ L := fun hm => (h.lit _ hm).1 rfl
    simp [h1, h2]
  lit := fun c h => by cases h
  few := fun _ => ⟨G ++ L, by simp⟩
  nofew := fun h => by cases h
  nomany := h.nomany
  ahead := fun X Y hs h1 h2 => by
    rw [← List.append_assoc] at h1
    obtain ⟨t, u, rfl, h3, h4⟩ := mt_append.1 h1
    have hu : Mt (37 :: P') (u ++ Y) := by
      obtain ⟨a, b, rfl, h5, h6⟩ := h4
      have h6' : b = [] := h6
      subst h6'
      exact ⟨a, Y, by simp, h5, by simpa using h2⟩
    have := h.ahead' (by simpa using hs) h3 hu
    simp at this ⊢; omega
  just := by
    rw [h.just]; simp

theorem Inv.step {c : UInt8} {P' U' : List UInt8} (h : Inv pat name A G L (c :: P') B H (c :: U') mn fw) (hc : c ≠ 42 ∧ c ≠ 37) : Inv pat name A G (L ++ [c]) P' B H U' mn fw where
  pat_eq := by rw [h.pat_eq]; simp
  name_eq := by rw [h.name_eq]; simp
  reach := h.reach
  star := h.star
  lit := fun d hd => by
    rcases List.mem_append.1 hd with h1 | h1
    · exact h.lit d h1
    · rw [List.mem_singleton] at h1
      subst h1; exact hc
  few := h.few
  nofew := h.nofew
  nomany := h.nomany
  ahead := fun X Y hs h1 h2 => by
    have := h.ahead X Y (by simpa using hs) h1 (by simpa using h2)
    simp at this ⊢; omega
  just := by rw [h.just]; simp

theorem Inv.back1 {c : UInt8} {W : List UInt8} (h : Inv pat name A G L P B H U mn true) (hf : ¬ Mt P U) (hw : L ++ U = c :: W) (hc : c ≠ 47) : Inv pat name A G [] (L ++ P) B (H ++ [c]) W mn true where
  pat_eq := h.pat_eq
  name_eq := by rw [h.name_eq, hw]; simp
  reach := by
    obtain ⟨G0, hG⟩ := h.few rfl
    have := h.reach
    rw [hG] at this ⊢
    obtain ⟨t, u, rfl, h1, a, b, rfl, h2, h3⟩ := mt_append.1 this
    have h3' : b = [] := h3
    subst h3'
    refine mt_append.2 ⟨t, a ++ [c], by simp, h1, a ++ [c], [], by simp, ?_, rfl⟩
    simp [One] at h2 ⊢
    exact ⟨h2, fun h => hc h.symm⟩
  star := h.star
  lit := fun c h => by cases h
  few := h.few
  nofew := h.nofew
  nomany := h.nomany
  ahead := fun X Y hs h1 h2 => by
    have hs' : X ++ Y <:+ H ++ (L ++ U) := by rw [hw]; simpa using hs
    have h3 := h.ahead X Y hs' h1 (by simpa using h2)
    rw [hw] at h3
    simp only [List.length_cons, List.nil_append] at h3 ⊢
    rcases Nat.lt_or_ge W.length Y.length with hlt | hge
    · exfalso
      have : Y = L ++ U := suf_eq (n := H ++ (L ++ U)) ((List.suffix_append _ _).trans hs') (List.suffix_append _ _) (by rw [hw]; simp; omega)
      subst this
      obtain ⟨a, b, h4, h5, h6⟩ := mt_append.1 (show Mt (L ++ P) (L ++ U) by simpa using h2)
      rw [lit_mt h.lit] at h5
      subst h5
      rw [List.append_cancel_left h4] at hf
      exact hf h6
    · exact hge
  just := by rw [h.just, hw]; simp

/-- Nothing begins at the start when the few are used up. -/
theorem Inv.used (h : Inv pat name A G L P B H U mn fw) (hf : ¬ Mt P U) (hu : fw = true → ∀ c W, L ++ U = c :: W → c = 47) : ¬ Mt (G ++ (L ++ P)) (H ++ (L ++ U)) := by
  intro hm
  obtain ⟨X, Y, he, h1, h2⟩ := mt_append.1 hm
  have hle := h.ahead X Y (by rw [he]; exact List.suffix_refl _) h1 h2
  have hXH : X = H ∧ Y = L ++ U := by
    cases hfw : fw
    · have hg := h.nofew hfw
      subst hg
      have e1 : X = [] := h1
      have e2 : H = [] := h.reach
      subst e1 e2
      exact ⟨rfl, he.symm⟩
    · have hlen : (H ++ (L ++ U)).length = (X ++ Y).length := by rw [he]
      simp only [List.length_append] at hlen hle
      have hpre : H <+: X := List.prefix_of_prefix_length_le ⟨L ++ U, rfl⟩ ⟨Y, he.symm⟩ (by omega)
      obtain ⟨T, rfl⟩ := hpre
      rw [List.append_assoc] at he
      have he' := List.append_cancel_left he
      cases T with
      | nil => exact ⟨by simp, by simpa using he'.symm⟩
      | cons c T =>
        have hc : c = 47 := hu hfw c (T ++ Y) (by rw [he']; rfl)
        subst hc
        have c1 := mt_count h.star h1
        have c2 := mt_count h.star h.reach
        rw [List.count_append, c2, List.count_cons_self] at c1
        omega
  obtain ⟨rfl, rfl⟩ := hXH
  obtain ⟨a, b, h4, h5, h6⟩ := mt_append.1 h2
  rw [lit_mt h.lit] at h5
  subst h5
  rw [List.append_cancel_left h4] at hf
  exact hf h6

theorem Inv.back2 {c : UInt8} {W : List UInt8} (h : Inv pat name A G L P B H U true fw) (hf : ¬ Mt P U) (hu : fw = true → ∀ c W, L ++ U = c :: W → c = 47) (hw : H ++ (L ++ U) = c :: W) :
    Inv pat name A [] [] (G ++ (L ++ P)) (B ++ [c]) [] W true false where
  pat_eq := h.pat_eq
  name_eq := by rw [h.name_eq, hw]; simp
  reach := rfl
  star := by simp
  lit := fun c h => by cases h
  few := fun h => by cases h
  nofew := fun _ => rfl
  nomany := fun h => by cases h
  ahead := fun X Y hs _ _ => by have := hs.length_le; simp at this ⊢; omega
  just := by
    rw [h.just]
    simp only [if_true, List.nil_append]
    constructor
    · rintro ⟨V, hV, h1⟩
      rw [hw, List.suffix_cons_iff] at hV
      rcases hV with rfl | hV
      · rw [← hw] at h1
        exact absurd h1 (h.used hf hu)
      · exact ⟨V, hV, h1⟩
    · rintro ⟨V, hV, h1⟩
      exact ⟨V, hV.trans (by rw [hw]; exact List.suffix_cons _ _), h1⟩

theorem Inv.fail (h : Inv pat name A G L P B H U mn fw) (hf : ¬ Mt P U) (hu : fw = true → ∀ c W, L ++ U = c :: W → c = 47) (hm : mn = true → H ++ (L ++ U) = []) : ¬ Mt pat name := by
  rw [h.just]
  cases mn
  · exact h.used hf hu
  · rintro ⟨V, hV, h1⟩
    rw [hm rfl, List.suffix_nil] at hV
    subst hV
    have := h.used hf hu
    rw [hm rfl] at this
    exact this h1

theorem not_mt {P U : List UInt8} (h1 : ∀ P', P ≠ 42 :: P') (h2 : ∀ P', P ≠ 37 :: P') (h3 : ¬ (P = [] ∧ U = [])) (h4 : ∀ c P' U', P = c :: P' → U = c :: U' → False) : ¬ Mt P U := by
  intro h
  cases P with
  | nil => exact h3 ⟨rfl, h⟩
  | cons c P =>
    obtain ⟨t, u, rfl, h5, _⟩ := h
    have hc1 : ¬ c = 42 := fun h => h1 P (by rw [h])
    have hc2 : ¬ c = 37 := fun h => h2 P (by rw [h])
    simp only [One, if_neg hc1, if_neg hc2] at h5
    subst h5
    exact h4 c P u rfl rfl

end Go.Gl

namespace Go.Gl
open Go Go.Ev
set_option maxRecDepth 100000

theorem getD_mid {α : Type} {a b : List α} {c d : α} {i : Nat} (h : i = a.length) : (a ++ c :: b).getD i d = c := by
  subst h
  simp [List.getD_eq_getElem?_getD]

abbrev St26 := ((List UInt8) × (List UInt8) × Int × Int × Unit × Unit × Unit) × ((Int × Int × Unit) × (Int × Int × Unit) × Unit)

def tail26 (pat name : List UInt8) (mp mn fp fn : Int) : Option (St26 ⊕ ((Bool × Unit) × Unit)) :=
  cond ((decide (0 ≤ fp) && decide (fn < ((name.length : Nat) : Int))) && !decide (List.getD name fn.toNat 0 = 47))
    (some (Sum.inl ((pat, name, fp, w64 (fn + 1), (), (), ()), ((mp, mn, ()), (fp, w64 (fn + 1), ()), ()))))
    (cond (decide (0 ≤ mp) && decide (mn < ((name.length : Nat) : Int)))
      (some (Sum.inl ((pat, name, mp, w64 (mn + 1), (), (), ()), ((mp, w64 (mn + 1), ()), ((-1 : Int), fn, ()), ()))))
      (some (Sum.inr ((false, ()), ()))))

theorem b26_tail {pat name : List UInt8} {i n : Nat} {mp mn fp fn : Int} (hfn : 0 ≤ fn) (h42 : ¬ (i < pat.length ∧ pat.getD i 0 = 42)) (h37 : ¬ (i < pat.length ∧ pat.getD i 0 = 37)) (hend : ¬ (i = pat.length ∧ n = name.length))
    (hlit : ¬ ((i < pat.length ∧ n < name.length) ∧ pat.getD i 0 = name.getD n 0)) :
    B26_0 ((pat, name, (i : Int), (n : Int), (), (), ()), ((mp, mn, ()), (fp, fn, ()), ())) = tail26 pat name mp mn fp fn := by
  have d0 : decide ((0 : Int) ≤ (i : Int)) = true := by simp
  have d1 : decide ((0 : Int) ≤ (n : Int)) = true := by simp
  have d2 : decide ((0 : Int) ≤ fn) = true := by simpa using hfn
  have e42 : (decide ((i : Int) < ((pat.length : Nat) : Int)) && decide (pat.getD i 0 = 42)) = false := by
    rw [← Bool.decide_and, decide_eq_false_iff_not]; intro h; exact h42 ⟨by omega, h.2⟩
  have e37 : (decide ((i : Int) < ((pat.length : Nat) : Int)) && decide (pat.getD i 0 = 37)) = false := by
    rw [← Bool.decide_and, decide_eq_false_iff_not]; intro h; exact h37 ⟨by omega, h.2⟩
  have eend : (decide ((i : Int) = ((pat.length : Nat) : Int)) && decide ((n : Int) = ((name.length : Nat) : Int))) = false := by
    rw [← Bool.decide_and, decide_eq_false_iff_not]; intro h; exact hend ⟨by omega, by omega⟩
  have elit : ((decide ((i : Int) < ((pat.length : Nat) : Int)) && decide ((n : Int) < ((name.length : Nat) : Int))) && decide (pat.getD i 0 = name.getD n 0)) = false := by
    rw [← Bool.decide_and, ← Bool.decide_and, decide_eq_false_iff_not]; intro h; exact hlit ⟨⟨by omega, by omega⟩, h.2⟩
  simp only [B26_0, Int.toNat_natCast, d0, d1, d2, e42, e37, eend, elit, Bool.true_and, Bool.or_not_self, cond_true, cond_false]
  have g1 : ∀ x y : Bool, (x || !(x && y)) = true := by decide
  have g2 : ∀ x y : Bool, (y || !(x && y)) = true := by decide
  simp only [g1, g2, cond_true]
  rfl

theorem b26_many {pat name : List UInt8} {i n : Nat} {mp mn fp fn : Int} (h1 : i < pat.length) (h : pat.getD i 0 = 42) :
    B26_0 ((pat, name, (i : Int), (n : Int), (), (), ()), ((mp, mn, ()), (fp, fn, ()), ())) = some (Sum.inl ((pat, name, w64 (i + 1), (n : Int), (), (), ()), ((w64 (i + 1), (n : Int), ()), ((-1 : Int), 0, ()), ()))) := by
  have d0 : decide ((0 : Int) ≤ (i : Int)) = true := by simp
  have e1 : decide ((i : Int) < ((pat.length : Nat) : Int)) = true := by simp; omega
  simp only [B26_0, Int.toNat_natCast, d0, e1, h, decide_true, Bool.true_and, Bool.or_not_self, cond_true]

theorem b26_few {pat name : List UInt8} {i n : Nat} {mp mn fp fn : Int} (h1 : i < pat.length) (h : pat.getD i 0 = 37) :
    B26_0 ((pat, name, (i : Int), (n : Int), (), (), ()), ((mp, mn, ()), (fp, fn, ()), ())) = some (Sum.inl ((pat, name, w64 (i + 1), (n : Int), (), (), ()), ((mp, mn, ()), (w64 (i + 1), (n : Int), ()), ()))) := by
  have d0 : decide ((0 : Int) ≤ (i : Int)) = true := by simp
  have e1 : decide ((i : Int) < ((pat.length : Nat) : Int)) = true := by simp; omega
  have e2 : decide ((37 : UInt8) = 42) = false := by decide
  simp only [B26_0, Int.toNat_natCast, d0, e1, h, e2, decide_true, Bool.true_and, Bool.or_not_self, cond_true, cond_false]

theorem b26_end {pat name : List UInt8} {mp mn fp fn : Int} :
    B26_0 ((pat, name, (pat.length : Int), (name.length : Int), (), (), ()), ((mp, mn, ()), (fp, fn, ()), ())) = some (Sum.inr ((true, ()), ())) := by
  have e1 : decide (((pat.length : Nat) : Int) < ((pat.length : Nat) : Int)) = false := by simp
  simp only [B26_0, e1, decide_true, Bool.and_false, Bool.false_and, Bool.not_false, Bool.or_true, Bool.and_self, cond_true, cond_false]

theorem b26_lit {pat name : List UInt8} {i n : Nat} {mp mn fp fn : Int} (h1 : i < pat.length) (h2 : n < name.length) (h : pat.getD i 0 = name.getD n 0) (h42 : name.getD n 0 ≠ 42) (h37 : name.getD n 0 ≠ 37) :
    B26_0 ((pat, name, (i : Int), (n : Int), (), (), ()), ((mp, mn, ()), (fp, fn, ()), ())) = some (Sum.inl ((pat, name, w64 (i + 1), w64 (n + 1), (), (), ()), ((mp, mn, ()), (fp, fn, ()), ()))) := by
  have d0 : decide ((0 : Int) ≤ (i : Int)) = true := by simp
  have d1 : decide ((0 : Int) ≤ (n : Int)) = true := by simp
  have e1 : decide ((i : Int) < ((pat.length : Nat) : Int)) = true := by simp; omega
  have e2 : decide ((n : Int) < ((name.length : Nat) : Int)) = true := by simp; omega
  have e3 : decide (name.getD n 0 = 42) = false := by simpa using h42
  have e4 : decide (name.getD n 0 = 37) = false := by simpa using h37
  have e5 : decide ((i : Int) = ((pat.length : Nat) : Int)) = false := by simp; omega
  simp only [B26_0, Int.toNat_natCast, d0, d1, e1, e2, h, e3, e4, e5, decide_true, Bool.true_and, Bool.false_and, Bool.or_not_self, Bool.true_or, Bool.and_self, cond_true, cond_false]

/-- What a run of the loop knows. -/
def Inv26 (pat name : List UInt8) (p : St26) : Prop :=
  ∃ (A G L P B H U : List UInt8) (mn fw : Bool) (i n : Nat) (mp mq fp fq : Int), Inv pat name A G L P B H U mn fw ∧ p = ((pat, name, (i : Int), (n : Int), (), (), ()), ((mp, mq, ()), (fp, fq, ()), ())) ∧
    i = A.length + G.length + L.length ∧ n = B.length + H.length + L.length ∧ (mn = true → mp = A.length ∧ mq = B.length) ∧ (mn = false → mp = -1 ∧ mq = 0) ∧ (fw = true → fp = ((A.length + G.length : Nat) : Int) ∧ fq = ((B.length + H.length : Nat) : Int)) ∧
    (fw = false → fp = -1 ∧ 0 ≤ fq ∧ fq ≤ name.length)

def M26 (p : St26) : Nat := (((((405 : Int) - p.2.1.1) * 512 + (405 - p.2.1.2.1)) * 512 + (405 - p.2.2.1.1)) * 512 + (405 - p.2.2.1.2.1)) * 512 + (405 - p.1.2.2.1) |>.toNat

theorem step26 {pat name : List UInt8} (hp : pat.length ≤ 400) (hnm : name.length ≤ 400) (p : St26) (hI : Inv26 pat name p) :
    (∃ q, B26_0 p = some (Sum.inl q) ∧ Inv26 pat name q ∧ M26 q < M26 p) ∨ ∃ r, B26_0 p = some (Sum.inr r) ∧ ∃ b, r = ((b, ()), ()) ∧ (b = true ↔ Mt pat name) := by
  obtain ⟨A, G, L, P, B, H, U, mn, fw, i, n, mp, mq, fp, fq, inv, rfl, hi, hn, m1, m2, f1, f2⟩ := hI
  have lp : pat.length = A.length + G.length + L.length + P.length := by rw [inv.pat_eq]; simp; omega
  have ln : name.length = B.length + H.length + L.length + U.length := by rw [inv.name_eq]; simp; omega
  have gp : ∀ c P', P = c :: P' → i < pat.length ∧ pat.getD i 0 = c := by
    intro c P' h
    subst h
    refine ⟨by simp at lp; omega, ?_⟩
    rw [inv.pat_eq, ← List.append_assoc, ← List.append_assoc]
    exact getD_mid (by simp; omega)
  have gn : ∀ c U', U = c :: U' → n < name.length ∧ name.getD n 0 = c := by
    intro c P' h
    subst h
    refine ⟨by simp at ln; omega, ?_⟩
    rw [inv.name_eq, ← List.append_assoc, ← List.append_assoc]
    exact getD_mid (by simp; omega)
  have hmq : 0 ≤ mq ∧ mq ≤ 400 ∧ -1 ≤ mp ∧ mp ≤ i := by
    cases mn
    · have := m2 rfl; omega
    · have := m1 rfl; omega
  have hfq : 0 ≤ fq ∧ fq ≤ 400 ∧ -1 ≤ fp ∧ fp ≤ i := by
    cases fw
    · have := f2 rfl; omega
    · have := f1 rfl; omega
  have wi : i < 400 → w64 ((i : Int) + 1) = ((i + 1 : Nat) : Int) := fun h => by rw [w64_id (by omega) (by omega)]; rfl
  have wn : n < 400 → w64 ((n : Int) + 1) = ((n + 1 : Nat) : Int) := fun h => by rw [w64_id (by omega) (by omega)]; rfl
  have wmp : mp ≤ 400 := by omega
  -- the mismatch
  have slow : (¬ Mt P U) → B26_0 ((pat, name, (i : Int), (n : Int), (), (), ()), ((mp, mq, ()), (fp, fq, ()), ())) = tail26 pat name mp mq fp fq →
      (∃ q, B26_0 ((pat, name, (i : Int), (n : Int), (), (), ()), ((mp, mq, ()), (fp, fq, ()), ())) = some (Sum.inl q) ∧ Inv26 pat name q ∧ M26 q < M26 ((pat, name, (i : Int), (n : Int), (), (), ()), ((mp, mq, ()), (fp, fq, ()), ()))) ∨ ∃ r, B26_0 ((pat, name, (i : Int), (n : Int), (), (), ()), ((mp, mq, ()), (fp, fq, ()), ())) = some (Sum.inr r) ∧ ∃ b, r = ((b, ()), ()) ∧ (b = true ↔ Mt pat name) := by
    intro hf ht
    rw [ht]
    unfold tail26
    by_cases hfew : fw = true ∧ ∃ c W, L ++ U = c :: W ∧ c ≠ 47
    · left
      obtain ⟨hfw, c, W, hw, hc⟩ := hfew
      subst hfw
      obtain ⟨e1, e2⟩ := f1 rfl
      have hlen : L.length + U.length = W.length + 1 := by
        have := congrArg List.length hw
        simpa using this
      have gq : name.getD (B.length + H.length) 0 = c := by
        rw [inv.name_eq, hw, ← List.append_assoc]
        exact getD_mid (by simp)
      have c1 : decide ((0 : Int) ≤ fp) = true := by simp; omega
      have c2 : decide (fq < ((name.length : Nat) : Int)) = true := by simp; omega
      have c3 : decide (List.getD name fq.toNat 0 = 47) = false := by
        rw [e2, Int.toNat_natCast, gq]; simpa using hc
      have wq : w64 (fq + 1) = ((B.length + H.length + 1 : Nat) : Int) := by rw [w64_id (by omega) (by omega), e2]; rfl
      rw [c1, c2, c3, wq]
      refine ⟨_, rfl, ⟨A, G, [], L ++ P, B, H ++ [c], W, mn, true, A.length + G.length, B.length + H.length + 1, mp, mq, fp, _, inv.back1 hf hw hc, by rw [e1], by simp, by simp; omega, m1, m2, fun _ => ⟨e1, by simp; omega⟩, fun h => by cases h⟩, ?_⟩
      simp only [M26]; omega
    · have cf : ((decide (0 ≤ fp) && decide (fq < ((name.length : Nat) : Int))) && !decide (List.getD name fq.toNat 0 = 47)) = false := by
        cases hfw : fw
        · have := (f2 hfw).1
          subst this
          rfl
        · obtain ⟨e1, e2⟩ := f1 hfw
          cases hw : L ++ U with
          | nil =>
            have hlen : L.length + U.length = 0 := by
              have := congrArg List.length hw
              simpa using this
            have c2 : decide (fq < ((name.length : Nat) : Int)) = false := by simp; omega
            rw [c2]; simp
          | cons c W =>
            have hc : c = 47 := Classical.byContradiction fun h => hfew ⟨hfw, c, W, hw, h⟩
            have gq : name.getD (B.length + H.length) 0 = c := by
              rw [inv.name_eq, hw, ← List.append_assoc]
              exact getD_mid (by simp)
            have c3 : decide (List.getD name fq.toNat 0 = 47) = true := by
              rw [e2, Int.toNat_natCast, gq]; simpa using hc
            rw [c3]; simp
      have hu : fw = true → ∀ c W, L ++ U = c :: W → c = 47 := fun h1 c W h2 => Classical.byContradiction fun h => hfew ⟨h1, c, W, h2, h⟩
      rw [cf, cond_false]
      by_cases hmany : mn = true ∧ ∃ c W, H ++ (L ++ U) = c :: W
      · left
        obtain ⟨hmn, c, W, hw⟩ := hmany
        subst hmn
        obtain ⟨e1, e2⟩ := m1 rfl
        have hlen : H.length + (L.length + U.length) = W.length + 1 := by
          have := congrArg List.length hw
          simpa using this
        have c1 : decide ((0 : Int) ≤ mp) = true := by simp; omega
        have c2 : decide (mq < ((name.length : Nat) : Int)) = true := by simp; omega
        have wq : w64 (mq + 1) = ((B.length + 1 : Nat) : Int) := by rw [w64_id (by omega) (by omega), e2]; rfl
        rw [c1, c2, wq]
        refine ⟨_, rfl, ⟨A, [], [], G ++ (L ++ P), B ++ [c], [], W, true, false, A.length, B.length + 1, mp, _, -1, fq, inv.back2 hf hu hw, by rw [e1], by simp, by simp, fun _ => ⟨e1, by simp⟩, fun h => (by cases h), fun h => (by cases h), fun _ => ⟨rfl, hfq.1, ?_⟩⟩, ?_⟩
        · cases hfw : fw
          · exact (f2 hfw).2.2
          · have := (f1 hfw).2; omega
        · simp only [M26]; omega
      · right
        have cm : (decide (0 ≤ mp) && decide (mq < ((name.length : Nat) : Int))) = false := by
          cases hmn : mn
          · have := (m2 hmn).1
            subst this
            rfl
          · obtain ⟨e1, e2⟩ := m1 hmn
            cases hw : H ++ (L ++ U) with
            | nil =>
              have hlen : H.length + (L.length + U.length) = 0 := by
                have := congrArg List.length hw
                simpa using this
              have c2 : decide (mq < ((name.length : Nat) : Int)) = false := by simp; omega
              rw [c2]; simp
            | cons c W => exact absurd ⟨hmn, c, W, hw⟩ hmany
        rw [cm]
        refine ⟨_, rfl, false, rfl, fun h => (by cases h), fun h => absurd h (inv.fail hf hu fun hmn => ?_)⟩
        cases hw : H ++ (L ++ U) with
        | nil => rfl
        | cons c W => exact absurd ⟨hmn, c, W, hw⟩ hmany
  cases hP : P with
  | nil =>
    have hil : i = pat.length := by rw [hP] at lp; simp at lp; omega
    cases hU : U with
    | nil =>
      right
      have hnl : n = name.length := by rw [hU] at ln; simp at ln; omega
      rw [hil, hnl]
      refine ⟨_, b26_end, true, rfl, fun _ => inv.whole (by rw [hP, hU]; rfl), fun _ => rfl⟩
    | cons d U' =>
      have h1 := (gn d U' hU).1
      refine slow (by rw [hP, hU]; intro h; cases h) (b26_tail hfq.1 ?_ ?_ ?_ ?_) <;> omega
  | cons c P' =>
    obtain ⟨g1, g2⟩ := gp c P' hP
    by_cases h42 : c = 42
    · left
      subst h42
      rw [b26_many g1 g2, wi (by omega)]
      have inv' : Inv pat name A G L (42 :: P') B H U mn fw := by rw [← hP]; exact inv
      refine ⟨_, rfl, ⟨_, _, _, _, _, _, _, _, _, i + 1, n, _, _, -1, 0, inv'.many, rfl, by simp; omega, by simp; omega, fun _ => ⟨by simp; omega, by simp; omega⟩, fun h => (by cases h), fun h => (by cases h), fun _ => ⟨rfl, by omega, by omega⟩⟩, ?_⟩
      simp only [M26]; omega
    · by_cases h37 : c = 37
      · left
        subst h37
        rw [b26_few g1 g2, wi (by omega)]
        have inv' : Inv pat name A G L (37 :: P') B H U mn fw := by rw [← hP]; exact inv
        refine ⟨_, rfl, ⟨_, _, _, _, _, _, _, _, _, i + 1, n, _, _, _, _, inv'.few1, rfl, by simp; omega, by simp; omega, m1, m2, fun _ => ⟨by simp; omega, by simp; omega⟩, fun h => (by cases h)⟩, ?_⟩
        simp only [M26]; omega
      · cases hU : U with
        | nil =>
          have hnl : n = name.length := by rw [hU] at ln; simp at ln; omega
          refine slow ?_ (b26_tail hfq.1 (by rw [g2]; exact fun h => h42 h.2) (by rw [g2]; exact fun h => h37 h.2) (by omega) (by omega))
          rw [hP, hU]
          exact not_mt (fun _ h => h42 (List.cons.inj h).1) (fun _ h => h37 (List.cons.inj h).1) (fun h => by cases h.1) (fun _ _ _ _ h => by cases h)
        | cons d U' =>
          obtain ⟨g3, g4⟩ := gn d U' hU
          by_cases hcd : c = d
          · left
            subst hcd
            rw [b26_lit g1 g3 (by rw [g2, g4]) (by rw [g4]; exact h42) (by rw [g4]; exact h37), wi (by omega), wn (by omega)]
            have inv' : Inv pat name A G L (c :: P') B H (c :: U') mn fw := by rw [← hP, ← hU]; exact inv
            refine ⟨_, rfl, ⟨_, _, _, _, _, _, _, _, _, i + 1, n + 1, _, _, _, _, inv'.step ⟨h42, h37⟩, rfl, by simp; omega, by simp; omega, m1, m2, f1, f2⟩, ?_⟩
            simp only [M26]; omega
          · refine slow ?_ (b26_tail hfq.1 (by rw [g2]; exact fun h => h42 h.2) (by rw [g2]; exact fun h => h37 h.2) (by omega) (by rw [g2, g4]; exact fun h => hcd h.2))
            rw [hP, hU]
            exact not_mt (fun _ h => h42 (List.cons.inj h).1) (fun _ h => h37 (List.cons.inj h).1) (fun h => by cases h.1) (fun _ _ _ h1 h2 => hcd ((List.cons.inj h1).1.trans (List.cons.inj h2).1.symm))

theorem F26_eq {pat name : List UInt8} (hp : pat.length ≤ 400) (hnm : name.length ≤ 400) : ∃ b, F26 ((pat, name, ()), ()) = some (b, ()) ∧ (b = true ↔ Mt pat name) := by
  obtain ⟨r, h1, b, rfl, h2⟩ := loop_ind (f := B26_0) (Inv26 pat name) M26 (fun r => ∃ b, r = ((b, ()), ()) ∧ (b = true ↔ Mt pat name)) (step26 hp hnm)
    (p := ((pat, name, 0, 0, (), (), ()), ((-1, 0, ()), (-1, 0, ()), ())))
    ⟨[], [], [], pat, [], [], name, false, false, 0, 0, -1, 0, -1, 0, Inv.start, rfl, rfl, rfl, fun h => (by cases h), fun _ => ⟨rfl, rfl⟩, fun h => (by cases h), fun _ => ⟨rfl, by omega, by omega⟩⟩ (by unfold FUEL M26; simp)
  refine ⟨b, ?_, h2⟩
  have h1' : L26_0 ((pat, name, 0, 0, (), (), ()), ((-1, 0, ()), (-1, 0, ()), ())) = some ((b, ()), ()) := h1
  simp only [F26]
  rw [h1']
  rfl

end Go.Gl

namespace Go.Gl
open Go Go.Ev
set_option maxRecDepth 100000

theorem mt_single {c : UInt8} {u : List UInt8} : Mt [c] u ↔ One c u :=
  ⟨fun ⟨t, v, h1, h2, h3⟩ => by
    have h3' : v = [] := h3
    subst h3' h1
    simpa using h2, fun h => ⟨u, [], by simp, h, rfl⟩⟩

theorem mt_star {c : UInt8} (hc : c = 42 ∨ c = 37) {q s : List UInt8} {a : UInt8} : Mt (q ++ [c]) (s ++ [a]) ↔ Mt q (s ++ [a]) ∨ (Mt (q ++ [c]) s ∧ (c = 42 ∨ a ≠ 47)) := by
  constructor
  · intro h
    obtain ⟨t, u, h1, h2, h3⟩ := mt_append.1 h
    rw [mt_single] at h3
    rcases List.eq_nil_or_concat u with rfl | ⟨v, b, rfl⟩
    · left; rw [h1]; simpa using h2
    · right
      rw [List.concat_eq_append] at h1 h3
      rw [← List.append_assoc] at h1
      obtain ⟨e1, e2⟩ := List.append_inj' h1 rfl
      simp only [List.cons.injEq, and_true] at e2
      subst e1 e2
      refine ⟨mt_append.2 ⟨t, v, rfl, h2, mt_single.2 ?_⟩, ?_⟩
      · rcases hc with rfl | rfl
        · simp [One]
        · simp [One] at h3 ⊢; exact h3.1
      · rcases hc with rfl | rfl
        · left; rfl
        · right; simp [One] at h3; exact fun h => h3.2 h.symm
  · rintro (h | ⟨h, h2⟩)
    · exact mt_append.2 ⟨_, [], by simp, h, mt_single.2 (by rcases hc with rfl | rfl <;> simp [One])⟩
    · obtain ⟨t, u, rfl, h3, h4⟩ := mt_append.1 h
      rw [mt_single] at h4
      refine mt_append.2 ⟨t, u ++ [a], by simp, h3, mt_single.2 ?_⟩
      rcases hc with rfl | rfl
      · simp [One]
      · simp [One] at h4 h2 ⊢; exact ⟨h4, fun h => h2 h.symm⟩

theorem mt_star0 {c : UInt8} (hc : c = 42 ∨ c = 37) {q : List UInt8} : Mt (q ++ [c]) [] ↔ Mt q [] := by
  constructor
  · intro h
    obtain ⟨t, u, h1, h2, _⟩ := mt_append.1 h
    obtain ⟨rfl, rfl⟩ := List.append_eq_nil_iff.1 h1.symm
    exact h2
  · intro h
    exact mt_append.2 ⟨[], [], rfl, h, mt_single.2 (by rcases hc with rfl | rfl <;> simp [One])⟩

theorem mt_lit {c : UInt8} (hc : ¬ (c = 42 ∨ c = 37)) {q s : List UInt8} {a : UInt8} : Mt (q ++ [c]) (s ++ [a]) ↔ Mt q s ∧ a = c := by
  have h1 : ¬ c = 42 := fun h => hc (.inl h)
  have h2 : ¬ c = 37 := fun h => hc (.inr h)
  constructor
  · intro h
    obtain ⟨t, u, e1, e2, e3⟩ := mt_append.1 h
    rw [mt_single] at e3
    simp only [One, if_neg h1, if_neg h2] at e3
    subst e3
    obtain ⟨rfl, e4⟩ := List.append_inj' e1 rfl
    simp only [List.cons.injEq, and_true] at e4
    exact ⟨e2, e4⟩
  · rintro ⟨h3, rfl⟩
    exact mt_append.2 ⟨s, [a], rfl, h3, mt_single.2 (by simp [One, if_neg h1, if_neg h2])⟩

theorem mt_lit0 {c : UInt8} (hc : ¬ (c = 42 ∨ c = 37)) {q : List UInt8} : ¬ Mt (q ++ [c]) [] := by
  have h1 : ¬ c = 42 := fun h => hc (.inl h)
  have h2 : ¬ c = 37 := fun h => hc (.inr h)
  intro h
  obtain ⟨t, u, e1, e2, e3⟩ := mt_append.1 h
  rw [mt_single] at e3
  simp only [One, if_neg h1, if_neg h2] at e3
  subst e3
  simp at e1

/-- A row of truths. -/
def Row (pat name : List UInt8) (p : Nat) (row : List Bool) (upto : Nat) : Prop := ∀ k, k < upto → (row.getD k false = true ↔ Mt (pat.take p) (name.take k))

theorem getD_set {row : List Bool} {n k : Nat} {v : Bool} (h : n < row.length) : (row.set n v).getD k false = if k = n then v else row.getD k false := by
  simp only [List.getD_eq_getElem?_getD, List.getElem?_set]
  by_cases hk : n = k
  · subst hk; simp [h]
  · rw [if_neg hk, if_neg (Ne.symm hk)]

theorem row_set {pat name : List UInt8} {p : Nat} {next : List Bool} {n : Nat} {v : Bool} (hn : n < next.length) (h : Row pat name p next n) (hv : v = true ↔ Mt (pat.take p) (name.take n)) : Row pat name p (next.set n v) (n + 1) := by
  intro k hk
  rw [getD_set hn]
  by_cases h1 : k = n
  · subst h1; rw [if_pos rfl]; exact hv
  · rw [if_neg h1]; exact h k (by omega)

theorem take_snoc {α : Type} [Inhabited α] {l : List α} {n : Nat} (h : n < l.length) (d : α) : l.take (n + 1) = l.take n ++ [l.getD n d] := by
  rw [List.take_add_one, List.getD_eq_getElem?_getD, List.getElem?_eq_getElem h]; rfl

theorem inner28 {pat name : List UInt8} {p : Nat} {row : List Bool} (hp : p < pat.length) (hpl : pat.length ≤ 400) (hnm : name.length ≤ 400) (hrl : row.length = name.length + 1) (hrow : Row pat name p row (name.length + 1)) :
    ∃ next, L28_1 ((pat, name, (), (p : Int), (), 0, ()), (row, List.replicate (name.length + 1) false, ())) = some ((pat, name, (p : Int), (), ()), (next, ())) ∧ next.length = name.length + 1 ∧ Row pat name (p + 1) next (name.length + 1) := by
  obtain ⟨r, h1, next, rfl, h2, h3⟩ := loop_ind (f := B28_1) (fun s => ∃ (n : Nat) (next : List Bool), s = ((pat, name, (), (p : Int), (), (n : Int), ()), (row, next, ())) ∧ n ≤ name.length + 1 ∧ next.length = name.length + 1 ∧ Row pat name (p + 1) next n)
    (fun s => ((name.length + 1 : Nat) - s.1.2.2.2.2.2.1).toNat) (fun r => ∃ next, r = ((pat, name, (p : Int), (), ()), (next, ())) ∧ next.length = name.length + 1 ∧ Row pat name (p + 1) next (name.length + 1))
    (fun s ⟨n, next, hs, hn, hnl, hR⟩ => by
      subst hs
      by_cases hlt : n ≤ name.length
      · left
        have c1 : decide ((n : Int) ≤ ((name.length : Nat) : Int)) = true := by simp; omega
        have c2 : decide ((0 : Int) ≤ (p : Int)) = true := by simp
        have c3 : decide ((p : Int) < ((pat.length : Nat) : Int)) = true := by simp; omega
        have c4 : decide ((0 : Int) ≤ (n : Int)) = true := by simp
        have c5 : decide ((n : Int) < ((row.length : Nat) : Int)) = true := by simp; omega
        have c6 : decide ((n : Int) < ((next.length : Nat) : Int)) = true := by simp; omega
        have hps : pat.take (p + 1) = pat.take p ++ [pat.getD p 0] := take_snoc hp 0
        have e1 : ∀ hc : pat.getD p 0 = 42 ∨ pat.getD p 0 = 37, (decide (pat.getD p 0 = 42) || decide (pat.getD p 0 = 37)) = true := fun hc => by simpa using hc
        have e2 : ∀ hc : ¬ (pat.getD p 0 = 42 ∨ pat.getD p 0 = 37), (decide (pat.getD p 0 = 42) || decide (pat.getD p 0 = 37)) = false := fun hc => by simpa using hc
        have wn : w64 ((n : Int) + 1) = ((n + 1 : Nat) : Int) := by rw [w64_id (by omega) (by omega)]; rfl
        have hR0 := hrow n (by omega)
        have key : ∃ v, B28_1 ((pat, name, (), (p : Int), (), (n : Int), ()), (row, next, ())) = some (Sum.inl ((pat, name, (), (p : Int), (), ((n + 1 : Nat) : Int), ()), (row, next.set n v, ()))) ∧ (v = true ↔ Mt (pat.take (p + 1)) (name.take n)) := by
          rw [hps]
          cases n with
          | zero =>
            have c7 : decide ((0 : Int) < ((0 : Nat) : Int)) = false := by simp
            by_cases hc : pat.getD p 0 = 42 ∨ pat.getD p 0 = 37
            · refine ⟨row.getD 0 false || ((false && next.getD (w64 (((0 : Nat) : Int) - 1)).toNat false) && (decide (pat.getD p 0 = 42) || !decide (name.getD (w64 (((0 : Nat) : Int) - 1)).toNat 0 = 47))), ?_, ?_⟩
              · simp only [B28_1, Int.toNat_natCast, c1, c2, c3, c4, c5, c6, c7, e1 hc, Bool.and_self, Bool.false_and, Bool.not_false, Bool.or_true, cond_true, Option.bind_some, wn]
              · rw [Bool.false_and, Bool.false_and, Bool.or_false, hR0, List.take_zero, mt_star0 hc]
            · refine ⟨(false && row.getD (w64 (((0 : Nat) : Int) - 1)).toNat false) && decide (name.getD (w64 (((0 : Nat) : Int) - 1)).toNat 0 = pat.getD p 0), ?_, ?_⟩
              · simp only [B28_1, Int.toNat_natCast, c1, c2, c3, c4, c6, c7, e2 hc, Bool.and_self, Bool.false_and, Bool.not_false, Bool.or_true, cond_true, cond_false, Option.bind_some, wn]
              · rw [Bool.false_and, Bool.false_and, List.take_zero]
                exact ⟨fun h => (by cases h), fun h => absurd h (mt_lit0 hc)⟩
          | succ j =>
            have c7 : decide ((0 : Int) < ((j + 1 : Nat) : Int)) = true := by simp
            have wj : w64 (((j + 1 : Nat) : Int) - 1) = (j : Int) := by rw [w64_id (by omega) (by omega)]; omega
            have c8 : decide ((0 : Int) ≤ (j : Int)) = true := by simp
            have c9 : decide ((j : Int) < ((next.length : Nat) : Int)) = true := by simp; omega
            have c10 : decide ((j : Int) < ((name.length : Nat) : Int)) = true := by simp; omega
            have c11 : decide ((j : Int) < ((row.length : Nat) : Int)) = true := by simp; omega
            have hns : name.take (j + 1) = name.take j ++ [name.getD j 0] := take_snoc (by omega) 0
            by_cases hc : pat.getD p 0 = 42 ∨ pat.getD p 0 = 37
            · refine ⟨row.getD (j + 1) false || ((true && next.getD j false) && (decide (pat.getD p 0 = 42) || !decide (name.getD j 0 = 47))), ?_, ?_⟩
              · simp only [B28_1, Int.toNat_natCast, wj, c1, c2, c3, c4, c5, c6, c7, c8, c9, c10, e1 hc, Bool.and_self, Bool.true_or, cond_true, Option.bind_some, wn]
              · rw [hns, mt_star hc, ← hns]
                simp only [Bool.or_eq_true, Bool.and_eq_true, decide_eq_true_eq, Bool.true_and, hR0, Bool.not_eq_true', decide_eq_false_iff_not, hR j (by omega), hps]
            · refine ⟨(true && row.getD j false) && decide (name.getD j 0 = pat.getD p 0), ?_, ?_⟩
              · simp only [B28_1, Int.toNat_natCast, wj, c1, c2, c3, c4, c6, c7, c8, c10, c11, e2 hc, Bool.and_self, Bool.true_or, cond_true, cond_false, Option.bind_some, wn]
              · rw [hns, mt_lit hc]
                simp only [Bool.and_eq_true, decide_eq_true_eq, Bool.true_and, hrow j (by omega)]
        obtain ⟨v, k1, k2⟩ := key
        refine ⟨_, k1, ⟨n + 1, _, rfl, by omega, by simpa using hnl, row_set (by omega) hR k2⟩, ?_⟩
        simp only; omega
      · right
        have c1 : decide ((n : Int) ≤ ((name.length : Nat) : Int)) = false := by simp; omega
        have hne : n = name.length + 1 := by omega
        subst hne
        exact ⟨_, by simp only [B28_1, c1, cond_false] <;> rfl, next, rfl, hnl, hR⟩)
    (p := ((pat, name, (), (p : Int), (), 0, ()), (row, List.replicate (name.length + 1) false, ()))) ⟨0, _, rfl, Nat.zero_le _, by simp, fun k hk => absurd hk (Nat.not_lt_zero _)⟩ (by unfold FUEL; simp only; omega)
  exact ⟨next, h1, h2, h3⟩

theorem F28_eq {pat name : List UInt8} (hpl : pat.length ≤ 400) (hnm : name.length ≤ 400) : ∃ b, F28 ((pat, name, ()), ()) = some (b, ()) ∧ (b = true ↔ Mt pat name) := by
  have w1 : w64 (((name.length : Nat) : Int) + 1) = ((name.length + 1 : Nat) : Int) := by rw [w64_id (by omega) (by omega)]; rfl
  have g1 : decide ((0 : Int) ≤ ((name.length + 1 : Nat) : Int)) = true := by simp; omega
  have g2 : bytesOK (name.length + 1) 1 = true := bytes_true (by omega)
  obtain ⟨r, h1, row, rfl, h2, h3⟩ := loop_ind (f := B28_0) (fun s => ∃ (p : Nat) (row : List Bool), s = ((pat, name, (), (p : Int), ()), (row, ())) ∧ p ≤ pat.length ∧ row.length = name.length + 1 ∧ Row pat name p row (name.length + 1))
    (fun s => ((pat.length : Nat) - s.1.2.2.2.1).toNat) (fun r => ∃ row, r = ((name, (), ()), (row, ())) ∧ row.length = name.length + 1 ∧ Row pat name pat.length row (name.length + 1))
    (fun s ⟨p, row, hs, hp, hrl, hR⟩ => by
      subst hs
      by_cases hlt : p < pat.length
      · left
        have c1 : decide ((p : Int) < ((pat.length : Nat) : Int)) = true := by simp; omega
        have wp : w64 ((p : Int) + 1) = ((p + 1 : Nat) : Int) := by rw [w64_id (by omega) (by omega)]; rfl
        obtain ⟨next, n1, n2, n3⟩ := inner28 hlt hpl hnm hrl hR
        refine ⟨((pat, name, (), ((p + 1 : Nat) : Int), ()), (next, ())), ?_, ⟨p + 1, next, rfl, by omega, n2, n3⟩, by simp only; omega⟩
        simp only [B28_0, c1, w1, g1, g2, Int.le_refl, decide_true, Int.toNat_natCast, Bool.and_self, cond_true, Option.bind_some, n1, wp]
      · right
        have c1 : decide ((p : Int) < ((pat.length : Nat) : Int)) = false := by simp; omega
        have hpe : p = pat.length := by omega
        subst hpe
        exact ⟨_, by simp only [B28_0, c1, cond_false] <;> rfl, row, rfl, hrl, hR⟩)
    (p := ((pat, name, (), 0, ()), ((List.replicate (name.length + 1) false).set 0 true, ()))) ⟨0, _, rfl, Nat.zero_le _, by simp, fun k hk => by
      rw [getD_set (by simp)]
      by_cases h0 : k = 0
      · subst h0; simp [Mt]
      · rw [if_neg h0, List.take_zero]
        have : (List.replicate (name.length + 1) false).getD k false = false := by
          rw [List.getD_eq_getElem?_getD, List.getElem?_replicate]; split <;> rfl
        rw [this]
        refine ⟨fun h => (by cases h), fun h => ?_⟩
        have h' : name.take k = [] := h
        have := congrArg List.length h'
        rw [List.length_take, List.length_nil] at this
        omega⟩ (by unfold FUEL; simp only; omega)
  have h1' : L28_0 ((pat, name, (), 0, ()), ((List.replicate (name.length + 1) false).set 0 true, ())) = some ((name, (), ()), (row, ())) := h1
  refine ⟨row.getD name.length false, ?_, by rw [h3 name.length (by omega), List.take_length, List.take_length]⟩
  have g3 : decide ((0 : Int) < (((List.replicate (name.length + 1) false).length : Nat) : Int)) = true := by simp
  have g4 : decide ((0 : Int) ≤ ((name.length : Nat) : Int)) = true := by simp
  have g5 : decide (((name.length : Nat) : Int) < ((row.length : Nat) : Int)) = true := by simp; omega
  simp only [F28, w1, g1, g2, Int.le_refl, decide_true, Int.toNat_natCast, Bool.and_self, cond_true, Option.bind_some, g3, h1', g4, g5]

end Go.Gl

namespace Go.Gl
open Go Go.Ev
set_option maxRecDepth 100000

def low1 (b : UInt8) : UInt8 := if 65 ≤ b.toNat ∧ b.toNat ≤ 90 then b + 32 else b

def low (s : List UInt8) : List UInt8 := s.map low1

theorem getD_lt {s : List UInt8} {i : Nat} (h : i < s.length) : s.getD i 0 = s[i] := by
  rw [List.getD_eq_getElem?_getD, List.getElem?_eq_getElem h]; rfl

theorem F12_eq {s : List UInt8} (hs : s.length ≤ 500) : F12 ((s, ()), ()) = some (low s, ()) := by
  obtain ⟨r, h1, h2⟩ := loop_ind (f := B12_0) (fun p => ∃ (i : Nat), p = ((s, low (s.take i), (i : Int), ()), ()) ∧ i ≤ s.length) (fun p => ((s.length : Int) - p.1.2.2.1).toNat) (fun r => r = ((low s, ()), ()))
    (fun p ⟨i, hp, hi⟩ => by
      subst hp
      by_cases hlt : i < s.length
      · left
        have c1 : decide ((i : Int) < ((s.length : Nat) : Int)) = true := by simp; omega
        have c2 : decide ((0 : Int) ≤ (i : Int)) = true := by simp
        have wi : w64 ((i : Int) + 1) = ((i + 1 : Nat) : Int) := by rw [w64_id (by omega) (by omega)]; rfl
        have hl : (low (s.take i)).length = i := by simp [low]; omega
        refine ⟨((s, low (s.take (i + 1)), ((i + 1 : Nat) : Int), ()), ()), ?_, ⟨i + 1, rfl, by omega⟩, by simp only; omega⟩
        have hls : low (s.take (i + 1)) = low (s.take i) ++ [low1 (s.getD i 0)] := by
          rw [take_snoc hlt 0]; simp [low]
        have g1 : ∀ x : UInt8, fits ((low (s.take i)).length + [x].length) = true := fun x => fits_true (by rw [hl]; simp; omega)
        rw [hls]
        unfold low1
        by_cases hc : 65 ≤ (s.getD i 0).toNat ∧ (s.getD i 0).toNat ≤ 90
        · have c3 : (decide (UInt8.toNat (65 : UInt8) ≤ (s.getD i 0).toNat) && decide ((s.getD i 0).toNat ≤ UInt8.toNat (90 : UInt8))) = true := by
            simpa using hc
          simp only [B12_0, c1, c2, Bool.and_self, cond_true, Option.bind_some, Int.toNat_natCast, c3, g1, wi, if_pos hc]
        · have c3 : (decide (UInt8.toNat (65 : UInt8) ≤ (s.getD i 0).toNat) && decide ((s.getD i 0).toNat ≤ UInt8.toNat (90 : UInt8))) = false := by
            rw [← Bool.decide_and, decide_eq_false_iff_not]; exact hc
          simp only [B12_0, c1, c2, Bool.and_self, cond_true, cond_false, Option.bind_some, Int.toNat_natCast, c3, g1, wi, if_neg hc]
      · right
        have c1 : decide ((i : Int) < ((s.length : Nat) : Int)) = false := by simp; omega
        exact ⟨_, by simp only [B12_0, c1, cond_false] <;> rfl, by rw [List.take_of_length_le (by omega)]⟩)
    (p := ((s, [], 0, ()), ())) ⟨0, rfl, Nat.zero_le _⟩ (by unfold FUEL; simp only; omega)
  subst h2
  have h1' : L12_0 ((s, [], 0, ()), ()) = some ((low s, ()), ()) := h1
  simp only [F12, h1', Option.bind_some]

theorem F40_eq {s : List UInt8} (hs : s.length ≤ 500) : F40 ((s, ()), ()) = some (low s, ()) := by
  obtain ⟨r, h1, h2⟩ := loop_ind (f := B40_0) (fun p => ∃ (i : Nat), p = (((), (), (s.length : Int), (i : Int), ()), (low (s.take i) ++ s.drop i, ())) ∧ i ≤ s.length) (fun p => ((s.length : Int) - p.1.2.2.2.1).toNat) (fun r => r = (((), ()), (low s, ())))
    (fun p ⟨i, hp, hi⟩ => by
      subst hp
      by_cases hlt : i < s.length
      · left
        have hll : (low (s.take i)).length = i := by simp [low]; omega
        have c1 : decide ((i : Int) < ((s.length : Nat) : Int)) = true := by simp; omega
        have c2 : decide ((0 : Int) ≤ (i : Int)) = true := by simp
        have c4 : decide ((i : Int) < (((low (s.take i) ++ s.drop i).length : Nat) : Int)) = true := by
          simp only [List.length_append, List.length_drop, hll, decide_eq_true_eq]; omega
        have wi : w64 ((i : Int) + 1) = ((i + 1 : Nat) : Int) := by rw [w64_id (by omega) (by omega)]; rfl
        have hd : s.drop i = s.getD i 0 :: s.drop (i + 1) := by rw [List.drop_eq_getElem_cons hlt, getD_lt hlt]
        have hg : (low (s.take i) ++ s.drop i).getD i 0 = s.getD i 0 := by
          rw [hd]; exact getD_mid hll.symm
        have hset : ∀ x, (low (s.take i) ++ s.drop i).set i x = low (s.take i) ++ x :: s.drop (i + 1) := fun x => by
          rw [hd, List.set_append_right _ _ (by omega), hll, Nat.sub_self]; rfl
        have hls : low (s.take (i + 1)) ++ s.drop (i + 1) = low (s.take i) ++ low1 (s.getD i 0) :: s.drop (i + 1) := by
          rw [take_snoc hlt 0]; simp [low]
        refine ⟨(((), (), (s.length : Int), ((i + 1 : Nat) : Int), ()), (low (s.take (i + 1)) ++ s.drop (i + 1), ())), ?_, ⟨i + 1, rfl, by omega⟩, by simp only; omega⟩
        rw [hls]
        unfold low1
        by_cases hc : 65 ≤ (s.getD i 0).toNat ∧ (s.getD i 0).toNat ≤ 90
        · have c3 : (decide (UInt8.toNat (65 : UInt8) ≤ (s.getD i 0).toNat) && decide ((s.getD i 0).toNat ≤ UInt8.toNat (90 : UInt8))) = true := by
            simpa using hc
          simp only [B40_0, c1, c2, c4, Bool.and_self, cond_true, Option.bind_some, Int.toNat_natCast, hg, c3, wi, if_pos hc, hset]
        · have c3 : (decide (UInt8.toNat (65 : UInt8) ≤ (s.getD i 0).toNat) && decide ((s.getD i 0).toNat ≤ UInt8.toNat (90 : UInt8))) = false := by
            rw [← Bool.decide_and, decide_eq_false_iff_not]; exact hc
          simp only [B40_0, c1, c2, c4, Bool.and_self, cond_true, cond_false, Option.bind_some, Int.toNat_natCast, hg, c3, wi, if_neg hc]
          rw [← hd]
      · right
        have c1 : decide ((i : Int) < ((s.length : Nat) : Int)) = false := by simp; omega
        exact ⟨_, by simp only [B40_0, c1, cond_false] <;> rfl, by rw [List.take_of_length_le (by omega), List.drop_of_length_le (by omega), List.append_nil]⟩)
    (p := (((), (), (s.length : Int), 0, ()), (s, ()))) ⟨0, rfl, Nat.zero_le _⟩ (by unfold FUEL; simp only; omega)
  subst h2
  have h1' : L40_0 (((), (), (s.length : Int), 0, ()), (s, ())) = some (((), ()), (low s, ())) := h1
  simp only [F40, h1', Option.bind_some]

abbrev inbox : List UInt8 := [105, 110, 98, 111, 120]

theorem F25_eq {s : List UInt8} (hs : s.length ≤ 500) : F25 ((s, inbox, ()), ()) = some (decide (low s = inbox), ()) := by
  have h : low inbox = inbox := by decide
  simp only [F25, F40_eq hs, F40_eq (show inbox.length ≤ 500 by simp), Option.bind_some, h]

def In (s : List UInt8) : Prop := 5 ≤ s.length ∧ low (s.take 5) = inbox

/-- What a pattern stands for. -/
def MM (p n : List UInt8) : Prop := (In p ∧ In n ∧ (n.length = 5 ∨ n.getD 5 0 = 47) ∧ Mt (p.drop 5) (n.drop 5)) ∨ (¬ (In p ∧ In n ∧ (n.length = 5 ∨ n.getD 5 0 = 47)) ∧ Mt p n)

theorem mm_pos {p n : List UInt8} (h : In p ∧ In n ∧ (n.length = 5 ∨ n.getD 5 0 = 47)) : MM p n ↔ Mt (p.drop 5) (n.drop 5) :=
  ⟨fun h1 => h1.elim (fun h2 => h2.2.2.2) (fun h2 => absurd h h2.1), fun h1 => .inl ⟨h.1, h.2.1, h.2.2, h1⟩⟩

theorem mm_neg {p n : List UInt8} (h : ¬ (In p ∧ In n ∧ (n.length = 5 ∨ n.getD 5 0 = 47))) : MM p n ↔ Mt p n :=
  ⟨fun h1 => h1.elim (fun h2 => absurd ⟨h2.1, h2.2.1, h2.2.2.1⟩ h) (fun h2 => h2.2), fun h1 => .inr ⟨h, h1⟩⟩

theorem F27_eq {s : List UInt8} (hs : s.length ≤ 500) : ∃ b, F27 ((s, ()), ()) = some (b, ()) ∧ (b = true ↔ In s) := by
  by_cases h5 : 5 ≤ s.length
  · have c1 : decide ((5 : Int) ≤ ((s.length : Nat) : Int)) = true := by simp; omega
    refine ⟨decide (low (s.take 5) = inbox), ?_, ?_⟩
    · simp only [F27, c1, Bool.true_or, cond_true, F12_eq (show (s.take 5).length ≤ 500 by simp; omega), Option.bind_some]
    · simp [In, h5]
  · have c1 : decide ((5 : Int) ≤ ((s.length : Nat) : Int)) = false := by simp; omega
    exact ⟨false, by simp only [F27, c1, Bool.not_false, Bool.or_true, cond_true, cond_false], fun h => (by cases h), fun h => absurd h.1 h5⟩

theorem take_end {s : List UInt8} : List.take ((((s.length : Nat) : Int)).toNat - 5) (s.drop 5) = s.drop 5 := by
  rw [Int.toNat_natCast, List.take_of_length_le (by simp)]

theorem bb {x y : Bool} {p : Prop} (h1 : x = true ↔ p) (h2 : y = true ↔ p) : (x == y) = true := by
  have : x = true ↔ y = true := h1.trans h2.symm
  cases x <;> cases y <;> simp_all

theorem F11_eq {p n : List UInt8} (hp : p.length ≤ 400) (hn : n.length ≤ 400) : ∃ b, F11 ((p, n, ()), ()) = some (b, ()) ∧ (b = true ↔ MM p n) := by
  obtain ⟨bp, e1, e2⟩ := F27_eq (show p.length ≤ 500 by omega)
  obtain ⟨bn, e3, e4⟩ := F27_eq (show n.length ≤ 500 by omega)
  obtain ⟨x, x1, x2⟩ := F28_eq (pat := p) (name := n) hp hn
  obtain ⟨z, z1, z2⟩ := F28_eq (pat := p.drop 5) (name := n.drop 5) (by simp; omega) (by simp; omega)
  cases hbp : bp
  · have hni : ¬ In p := fun h => by have := e2.2 h; rw [hbp] at this; cases this
    refine ⟨x, ?_, x2.trans (mm_neg (fun h => hni h.1)).symm⟩
    simp only [F11, e1, hbp, Option.bind_some, cond_false, x1]
  · have hip : In p := e2.1 hbp
    by_cases hni : In n
    · have hbn : bn = true := e4.2 hni
      have hl := hni.1
      by_cases h47 : n.length = 5 ∨ n.getD 5 0 = 47
      · have c1 : ∀ x, (decide ((5 : Int) < ((n.length : Nat) : Int)) || (decide (((n.length : Nat) : Int) = 5) || x)) = true := fun x => by
          rw [← Bool.or_assoc, Bool.or_eq_true]; left; simp; omega
        have c2 : (decide (((n.length : Nat) : Int) = 5) || decide (n.getD 5 0 = 47)) = true := by
          rw [Bool.or_eq_true, decide_eq_true_eq, decide_eq_true_eq]; exact h47.imp (fun h => by omega) id
        have c3 : decide ((5 : Int) ≤ ((p.length : Nat) : Int)) = true := by have := hip.1; simp; omega
        have c4 : decide ((5 : Int) ≤ ((n.length : Nat) : Int)) = true := by simp; omega
        refine ⟨z, ?_, z2.trans (mm_pos ⟨hip, hni, h47⟩).symm⟩
        simp only [F11, e1, hbp, e3, hbn, Option.bind_some, cond_true, c1, c2, c3, c4, Bool.and_self, Int.le_refl, decide_true, take_end, z1]
      · have c1 : ∀ x, (decide ((5 : Int) < ((n.length : Nat) : Int)) || (decide (((n.length : Nat) : Int) = 5) || x)) = true := fun x => by
          rw [← Bool.or_assoc, Bool.or_eq_true]; left; simp; omega
        have c2 : (decide (((n.length : Nat) : Int) = 5) || decide (n.getD 5 0 = 47)) = false := by
          rw [Bool.or_eq_false_iff, decide_eq_false_iff_not, decide_eq_false_iff_not]; exact ⟨fun h => h47 (.inl (by omega)), fun h => h47 (.inr h)⟩
        refine ⟨x, ?_, x2.trans (mm_neg (fun h => h47 h.2.2)).symm⟩
        simp only [F11, e1, hbp, e3, hbn, Option.bind_some, cond_true, c1, c2, Bool.and_false, cond_false, x1]
    · have hbn : bn = false := by
        cases h : bn
        · rfl
        · exact absurd (e4.1 h) hni
      refine ⟨x, ?_, x2.trans (mm_neg (fun h => hni h.2.1)).symm⟩
      have c1 : ∀ x y : Bool, (x || (y || true)) = true := by decide
      simp only [F11, e1, hbp, e3, hbn, Option.bind_some, cond_true, Bool.not_false, c1, Bool.false_and, cond_false, x1]

theorem F10_eq {p n : List UInt8} (hp : p.length ≤ 400) (hn : n.length ≤ 400) : ∃ b, F10 ((p, n, ()), ()) = some (b, ()) ∧ (b = true ↔ MM p n) := by
  obtain ⟨x, x1, x2⟩ := F26_eq (pat := p) (name := n) hp hn
  obtain ⟨z, z1, z2⟩ := F26_eq (pat := p.drop 5) (name := n.drop 5) (by simp; omega) (by simp; omega)
  by_cases h5 : 5 ≤ p.length ∧ 5 ≤ n.length
  · have c3 : decide ((5 : Int) ≤ ((p.length : Nat) : Int)) = true := by simp; omega
    have c4 : decide ((5 : Int) ≤ ((n.length : Nat) : Int)) = true := by simp; omega
    have f1 := F25_eq (show (p.take 5).length ≤ 500 by simp; omega)
    have f2 := F25_eq (show (n.take 5).length ≤ 500 by simp; omega)
    by_cases hip : low (p.take 5) = inbox
    · have d1 : decide (low (p.take 5) = inbox) = true := by simpa using hip
      by_cases hni : low (n.take 5) = inbox
      · have d2 : decide (low (n.take 5) = inbox) = true := by simpa using hni
        have c1 : ∀ x, (decide ((5 : Int) < ((n.length : Nat) : Int)) || (decide (((n.length : Nat) : Int) = 5) || x)) = true := fun x => by
          rw [← Bool.or_assoc, Bool.or_eq_true]; left; simp; omega
        by_cases h47 : n.length = 5 ∨ n.getD 5 0 = 47
        · have c2 : (decide (((n.length : Nat) : Int) = 5) || decide (n.getD 5 0 = 47)) = true := by
            rw [Bool.or_eq_true, decide_eq_true_eq, decide_eq_true_eq]; exact h47.imp (fun h => by omega) id
          refine ⟨z, ?_, z2.trans (mm_pos ⟨⟨h5.1, hip⟩, ⟨h5.2, hni⟩, h47⟩).symm⟩
          simp only [F10, c3, c4, Bool.true_or, cond_true, Bool.and_self, f1, f2, d1, d2, Option.bind_some, c1, c2, Int.le_refl, decide_true, take_end, z1]
        · have c2 : (decide (((n.length : Nat) : Int) = 5) || decide (n.getD 5 0 = 47)) = false := by
            rw [Bool.or_eq_false_iff, decide_eq_false_iff_not, decide_eq_false_iff_not]; exact ⟨fun h => h47 (.inl (by omega)), fun h => h47 (.inr h)⟩
          refine ⟨x, ?_, x2.trans (mm_neg (fun h => h47 h.2.2)).symm⟩
          simp only [F10, c3, c4, Bool.true_or, cond_true, Bool.and_self, f1, f2, d1, d2, Option.bind_some, c1, c2, Bool.and_false, cond_false, x1]
      · have d2 : decide (low (n.take 5) = inbox) = false := by simpa using hni
        have c1 : ∀ x y : Bool, (x || (y || true)) = true := by decide
        refine ⟨x, ?_, x2.trans (mm_neg (fun h => hni h.2.1.2)).symm⟩
        simp only [F10, c3, c4, Bool.true_or, cond_true, Bool.and_self, f1, f2, d1, d2, Option.bind_some, Bool.not_false, c1, Bool.false_and, cond_false, x1]
    · have d1 : decide (low (p.take 5) = inbox) = false := by simpa using hip
      refine ⟨x, ?_, x2.trans (mm_neg (fun h => hip h.1.2)).symm⟩
      simp only [F10, c3, c4, Bool.true_or, cond_true, Bool.and_self, f1, d1, Option.bind_some, cond_false, x1, Bool.not_false, Bool.or_true]
  · have c0 : (decide ((5 : Int) ≤ ((p.length : Nat) : Int)) && decide ((5 : Int) ≤ ((n.length : Nat) : Int))) = false := by
      rw [← Bool.decide_and, decide_eq_false_iff_not]; omega
    refine ⟨x, ?_, x2.trans (mm_neg (fun h => h5 ⟨h.1.1, h.2.1.1⟩)).symm⟩
    simp only [F10, c0, Bool.not_false, Bool.or_true, cond_true, cond_false, x1, Option.bind_some]

/-- GlobMatches is true. -/
theorem law3 (p n : List UInt8) : F3 ((p, n, ()), ()) = some (true, ()) := by
  obtain ⟨p', h1, hp⟩ := F8_eq p
  obtain ⟨n', h2, hn⟩ := F8_eq n
  obtain ⟨x, x1, x2⟩ := F10_eq (p := p') (n := n') (by omega) (by omega)
  obtain ⟨z, z1, z2⟩ := F11_eq (p := p') (n := n') (by omega) (by omega)
  simp only [F3, h1, h2, live9, x1, z1, Option.bind_some, cond_true, bb x2 z2]

end Go.Gl

namespace Go.Gl
open Go Go.Ev
set_option maxRecDepth 100000

theorem flat_eq (a : List UInt8) {b : List UInt8} (hb : b.length ≤ 200) : ∃ f, L4_0 ((a, b, true, 0, ()), ()) = some ((a, b, f, ()), ()) ∧ (f = true ↔ 47 ∉ b) := by
  obtain ⟨r, h1, f, rfl, h2⟩ := loop_ind (f := B4_0) (fun p => ∃ (i : Nat) (f : Bool), p = ((a, b, f, (i : Int), ()), ()) ∧ i ≤ b.length ∧ (f = true ↔ 47 ∉ b.take i)) (fun p => ((b.length : Int) - p.1.2.2.2.1).toNat)
    (fun r => ∃ f, r = ((a, b, f, ()), ()) ∧ (f = true ↔ 47 ∉ b))
    (fun p ⟨i, f, hp, hi, hf⟩ => by
      subst hp
      by_cases hlt : i < b.length
      · left
        have c1 : decide ((i : Int) < ((b.length : Nat) : Int)) = true := decide_eq_true (by omega)
        have c2 : decide ((0 : Int) ≤ (i : Int)) = true := decide_eq_true (by omega)
        have wi : w64 ((i : Int) + 1) = ((i + 1 : Nat) : Int) := by rw [w64_id (by omega) (by omega)]; rfl
        refine ⟨((a, b, f && !decide (b.getD i 0 = 47), ((i + 1 : Nat) : Int), ()), ()), ?_, ⟨i + 1, _, rfl, by omega, ?_⟩, by simp only; omega⟩
        · simp only [B4_0, c1, c2, Bool.and_self, Bool.true_or, cond_true, Int.toNat_natCast, Option.bind_some, wi]
        · rw [take_snoc hlt 0, List.mem_append, List.mem_singleton, Bool.and_eq_true, hf, Bool.not_eq_true', decide_eq_false_iff_not]
          exact ⟨fun h h2 => h2.elim h.1 (fun h3 => h.2 h3.symm), fun h => ⟨fun h2 => h (.inl h2), fun h2 => h (.inr h2.symm)⟩⟩
      · right
        have c1 : decide ((i : Int) < ((b.length : Nat) : Int)) = false := decide_eq_false (by omega)
        rw [List.take_of_length_le (by omega)] at hf
        exact ⟨_, by simp only [B4_0, c1, cond_false] <;> rfl, f, rfl, hf⟩)
    (p := ((a, b, true, 0, ()), ())) ⟨0, true, rfl, Nat.zero_le _, by simp⟩ (by unfold FUEL; simp only; omega)
  exact ⟨f, h1, h2⟩

theorem scan_eq {a : List UInt8} (ha : a.length ≤ 200) (b : List UInt8) : L4_1 ((a, b, 0, ()), ()) = some (Sum.inr ((true, ()), ())) ∨ (L4_1 ((a, b, 0, ()), ()) = some (Sum.inl ((a, b, ()), ())) ∧ Lit a) := by
  obtain ⟨r, h1, h2⟩ := loop_ind (f := B4_1) (fun p => ∃ (i : Nat), p = ((a, b, (i : Int), ()), ()) ∧ i ≤ a.length ∧ Lit (a.take i)) (fun p => ((a.length : Int) - p.1.2.2.1).toNat)
    (fun r => r = Sum.inr ((true, ()), ()) ∨ (r = Sum.inl ((a, b, ()), ()) ∧ Lit a))
    (fun p ⟨i, hp, hi, hf⟩ => by
      subst hp
      by_cases hlt : i < a.length
      · have c1 : decide ((i : Int) < ((a.length : Nat) : Int)) = true := decide_eq_true (by omega)
        have c2 : decide ((0 : Int) ≤ (i : Int)) = true := decide_eq_true (by omega)
        have wi : w64 ((i : Int) + 1) = ((i + 1 : Nat) : Int) := by rw [w64_id (by omega) (by omega)]; rfl
        by_cases hc : a.getD i 0 = 42 ∨ a.getD i 0 = 37
        · right
          have c3 : (decide (a.getD i 0 = 42) || decide (a.getD i 0 = 37)) = true := by
            rw [Bool.or_eq_true, decide_eq_true_eq, decide_eq_true_eq]; exact hc
          exact ⟨_, by simp only [B4_1, c1, c2, Bool.and_self, Bool.true_or, cond_true, Int.toNat_natCast, c3, live9, Option.bind_some] <;> rfl, .inl rfl⟩
        · left
          have c3 : (decide (a.getD i 0 = 42) || decide (a.getD i 0 = 37)) = false := by
            rw [Bool.or_eq_false_iff, decide_eq_false_iff_not, decide_eq_false_iff_not]; exact ⟨fun h => hc (.inl h), fun h => hc (.inr h)⟩
          refine ⟨_, by simp only [B4_1, c1, c2, Bool.and_self, Bool.true_or, cond_true, cond_false, Int.toNat_natCast, c3, wi] <;> rfl, ⟨i + 1, rfl, by omega, ?_⟩, by simp only; omega⟩
          intro x hx
          rw [take_snoc hlt 0, List.mem_append, List.mem_singleton] at hx
          rcases hx with h | h
          · exact hf x h
          · rw [h]; exact ⟨fun h => hc (.inl h), fun h => hc (.inr h)⟩
      · right
        have c1 : decide ((i : Int) < ((a.length : Nat) : Int)) = false := decide_eq_false (by omega)
        rw [List.take_of_length_le (by omega)] at hf
        exact ⟨_, by simp only [B4_1, c1, cond_false] <;> rfl, .inr ⟨rfl, hf⟩⟩)
    (p := ((a, b, 0, ()), ())) ⟨0, rfl, Nat.zero_le _, fun c h => by simp at h⟩ (by unfold FUEL; simp only; omega)
  rcases h2 with rfl | ⟨rfl, h3⟩
  · exact .inl h1
  · exact .inr ⟨h1, h3⟩

theorem lit_drop {a : List UInt8} (h : Lit a) (n : Nat) : Lit (a.drop n) := fun c hc => h c (List.mem_of_mem_drop hc)

theorem mm_lit_self {a : List UInt8} (h : Lit a) : MM a a := by
  by_cases hc : In a ∧ In a ∧ (a.length = 5 ∨ a.getD 5 0 = 47)
  · exact (mm_pos hc).2 ((lit_mt (lit_drop h 5)).2 rfl)
  · exact (mm_neg hc).2 ((lit_mt h).2 rfl)

theorem mm_lit_low {a b : List UInt8} (h : Lit a) (hm : MM a b) : low a = low b := by
  by_cases hc : In a ∧ In b ∧ (b.length = 5 ∨ b.getD 5 0 = 47)
  · have h1 := (lit_mt (lit_drop h 5)).1 ((mm_pos hc).1 hm)
    have ha : low a = low (a.take 5) ++ low (a.drop 5) := by rw [low, low, low, ← List.map_append, List.take_append_drop]
    have hb : low b = low (b.take 5) ++ low (b.drop 5) := by rw [low, low, low, ← List.map_append, List.take_append_drop]
    rw [ha, hb, h1, hc.1.2, hc.2.1.2]
  · rw [(lit_mt h).1 ((mm_neg hc).1 hm)]

theorem mm_lit_eq {a b : List UInt8} (h : Lit a) (hn : ¬ In a) : MM a b ↔ b = a := by
  rw [mm_neg (fun hc => hn hc.1), lit_mt h]

/-- GlobPlain is true. -/
theorem law4 (a b : List UInt8) : F4 ((a, b, ()), ()) = some (true, ()) := by
  obtain ⟨a', h1, ha⟩ := F8_eq a
  obtain ⟨b', h2, hb⟩ := F8_eq b
  obtain ⟨f, f1, f2⟩ := flat_eq a' hb
  obtain ⟨x, x1, x2⟩ := F10_eq (p := [42]) (n := b') (by simp) (by omega)
  obtain ⟨z, z1, z2⟩ := F10_eq (p := [37]) (n := b') (by simp) (by omega)
  have hx : x = true := by
    rw [x2, mm_neg (fun h => by have := h.1.1; simp at this)]
    exact ⟨b', [], by simp, by simp [One], rfl⟩
  have hz : (z == f) = true := bb z2 (f2.trans (by
    rw [mm_neg (fun h => by have := h.1.1; simp at this), mt_single]
    simp [One]))
  subst hx
  have hzf : z = f := by simpa using hz
  subst hzf
  rcases scan_eq ha b' with hs | ⟨hs, hlit⟩
  · simp only [F4, h1, h2, f1, x1, z1, hz, hs, Option.bind_some, Bool.not_true, Bool.not_false, cond_true, cond_false]
  · obtain ⟨u, u1, u2⟩ := F10_eq (p := a') (n := a') (by omega) (by omega)
    obtain ⟨v, v1, v2⟩ := F10_eq (p := a') (n := b') (by omega) (by omega)
    have hu : u = true := u2.2 (mm_lit_self hlit)
    subst hu
    have l1 := F12_eq (s := a') (by omega)
    have l2 := F12_eq (s := b') (by omega)
    have l3 := F12_eq (s := a'.take 5) (by rw [List.length_take]; omega)
    have fin : ¬ In a' → (v == decide (a' = b')) = true := fun hn => bb v2 (by rw [decide_eq_true_eq, mm_lit_eq hlit hn]; exact eq_comm)
    have hlow : v = true → decide (low a' = low b') = true := fun hv => decide_eq_true (mm_lit_low hlit (v2.1 hv))
    by_cases h5 : 5 ≤ a'.length
    · have c5 : decide ((5 : Int) ≤ ((a'.length : Nat) : Int)) = true := decide_eq_true (by omega)
      by_cases hi : low (a'.take 5) = inbox
      · have ci := decide_eq_true hi
        cases v with
        | true => simp only [F4, h1, h2, f1, x1, z1, hz, hs, u1, v1, l1, l2, l3, live9, hlow rfl, c5, ci, Option.bind_some, Bool.not_true, Bool.not_false, Bool.true_or, cond_true, cond_false]
        | false => simp only [F4, h1, h2, f1, x1, z1, hz, hs, u1, v1, l3, live9, c5, ci, Option.bind_some, Bool.not_true, Bool.not_false, Bool.true_or, cond_true, cond_false]
      · have ci := decide_eq_false hi
        have hf := fin (fun h => hi h.2)
        cases v with
        | true => simp only [F4, h1, h2, f1, x1, z1, hz, hs, u1, v1, l1, l2, l3, live9, hlow rfl, c5, ci, hf, Option.bind_some, Bool.not_true, Bool.not_false, Bool.true_or, cond_true, cond_false]
        | false => simp only [F4, h1, h2, f1, x1, z1, hz, hs, u1, v1, l3, live9, c5, ci, hf, Option.bind_some, Bool.not_true, Bool.not_false, Bool.true_or, cond_true, cond_false]
    · have c5 : decide ((5 : Int) ≤ ((a'.length : Nat) : Int)) = false := decide_eq_false (by omega)
      have hf := fin (fun h => h5 h.1)
      cases v with
      | true => simp only [F4, h1, h2, f1, x1, z1, hz, hs, u1, v1, l1, l2, live9, hlow rfl, c5, hf, Option.bind_some, Bool.not_true, Bool.not_false, Bool.or_true, cond_true, cond_false]
      | false => simp only [F4, h1, h2, f1, x1, z1, hz, hs, u1, v1, live9, c5, hf, Option.bind_some, Bool.not_true, Bool.not_false, Bool.or_true, cond_true, cond_false]

end Go.Gl
