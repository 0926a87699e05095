/- Matching of patterns, in plain Lean. -/
import Derived.Test.YtfajnpikmhnnlaaDoorGl3
namespace Go.Gl
open Go Go.Ev
set_option maxRecDepth 100000

/-- What one byte of a pattern stands for. -/
def One (c : UInt8) (t : List UInt8) : Prop := if c = 42 then True else if c = 37 then 47 ∉ t else t = [c]

def Mt : List UInt8 → List UInt8 → Prop
  | [], s => s = []
  | c :: p, s => ∃ t u, s = t ++ u ∧ One c t ∧ Mt p u

theorem mt_append : ∀ {p q s : List UInt8}, Mt (p ++ q) s ↔ ∃ t u, s = t ++ u ∧ Mt p t ∧ Mt q u
  | [], q, s => ⟨fun h => ⟨[], s, rfl, rfl, h⟩, fun ⟨t, u, h1, h2, h3⟩ => by
      have h2' : t = [] := h2
      subst h2' h1; exact h3⟩
  | c :: p, q, s => by
    constructor
    · rintro ⟨t, u, rfl, h1, h2⟩
      obtain ⟨v, w, rfl, h3, h4⟩ := mt_append.1 h2
      exact ⟨t ++ v, w, by simp, ⟨t, v, rfl, h1, h3⟩, h4⟩
    · rintro ⟨_, w, rfl, ⟨t, v, rfl, h1, h3⟩, h4⟩
      exact ⟨t, v ++ w, by simp, h1, mt_append.2 ⟨v, w, rfl, h3, h4⟩⟩

def Lit (l : List UInt8) : Prop := ∀ c ∈ l, c ≠ 42 ∧ c ≠ 37

theorem lit_mt : ∀ {l s : List UInt8}, Lit l → (Mt l s ↔ s = l)
  | [], s, _ => Iff.rfl
  | c :: l, s, h => by
    have hc := h c (by simp)
    have ih := fun {s} => lit_mt (s := s) (fun c hc => h c (List.mem_cons_of_mem _ hc) : Lit l)
    constructor
    · rintro ⟨t, u, rfl, h1, h2⟩
      rw [ih] at h2
      subst h2
      simp only [One, if_neg hc.1, if_neg hc.2] at h1
      subst h1; rfl
    · rintro rfl
      exact ⟨[c], l, rfl, by simp [One, if_neg hc.1, if_neg hc.2], ih.2 rfl⟩

theorem mt_count : ∀ {p s : List UInt8}, 42 ∉ p → Mt p s → s.count 47 = p.count 47
  | [], s, _, h => by
    have h' : s = [] := h
    subst h'; rfl
  | c :: p, s, h0, h => by
    obtain ⟨t, u, rfl, h1, h2⟩ := h
    have ih := mt_count (fun h => h0 (List.mem_cons_of_mem _ h)) h2
    have hc : ¬ c = 42 := fun h => h0 (by simp [h])
    rw [List.count_append, ih]
    by_cases h3 : c = 37
    · subst h3
      simp only [One, if_neg hc, if_true] at h1
      rw [List.count_eq_zero.2 h1, List.count_cons_of_ne (by decide), Nat.zero_add]
    · simp only [One, if_neg hc, if_neg h3] at h1
      subst h1
      rw [show c :: p = [c] ++ p from rfl, List.count_append]

theorem suf_eq {α : Type} {a b n : List α} (h1 : a <:+ n) (h2 : b <:+ n) (h : a.length = b.length) : a = b := by
  obtain ⟨x, hx⟩ := h1
  obtain ⟨y, hy⟩ := h2
  exact (List.append_inj' (hx.trans hy.symm) h).2

theorem suf_le {α : Type} {a b n : List α} (h1 : a <:+ n) (h2 : b <:+ n) (h : a.length ≤ b.length) : a <:+ b :=
  List.suffix_of_suffix_length_le h1 h2 h

/-- What a run of the matcher knows: `A`, `G`, `L`, `P` are the pattern, `B`, `H`, `L`, `U` the name. -/
structure Inv (pat name A G L P B H U : List UInt8) (mn fw : Bool) : Prop where
  pat_eq : pat = A ++ (G ++ (L ++ P))
  name_eq : name = B ++ (H ++ (L ++ U))
  reach : Mt G H
  star : 42 ∉ G
  lit : Lit L
  few : fw = true → ∃ G0, G = G0 ++ [37]
  nofew : fw = false → G = []
  nomany : mn = false → A = [] ∧ B = []
  ahead : ∀ X Y, X ++ Y <:+ H ++ (L ++ U) → Mt G X → Mt (L ++ P) Y → Y.length ≤ (L ++ U).length
  just : Mt pat name ↔ if mn then ∃ V, V <:+ H ++ (L ++ U) ∧ Mt (G ++ (L ++ P)) V else Mt (G ++ (L ++ P)) (H ++ (L ++ U))

variable {pat name A G L P B H U : List UInt8} {mn fw : Bool}

theorem Inv.start : Inv pat name [] [] [] pat [] [] name false false where
  pat_eq := rfl
  name_eq := rfl
  reach := rfl
  star := by simp
  lit := fun c h => by cases h
  few := fun h => by cases h
  nofew := fun _ => rfl
  nomany := fun _ => ⟨rfl, rfl⟩
  ahead := fun X Y h _ _ => by have := h.length_le; simp at this ⊢; omega
  just := by simp

theorem Inv.suf (h : Inv pat name A G L P B H U mn fw) : H ++ (L ++ U) <:+ name := ⟨B, h.name_eq.symm⟩

theorem Inv.suf2 (h : Inv pat name A G L P B H U mn fw) : L ++ U <:+ name := ⟨B ++ H, by rw [h.name_eq]; simp⟩

theorem Inv.suf3 (h : Inv pat name A G L P B H U mn fw) : U <:+ name := ⟨B ++ (H ++ L), by rw [h.name_eq]; simp⟩

/-- No success goes through the place earlier. -/
theorem Inv.ahead' (h : Inv pat name A G L P B H U mn fw) {X Y : List UInt8} (hs : X ++ Y <:+ H ++ (L ++ U)) (h1 : Mt (G ++ L) X) (h2 : Mt P Y) : Y.length ≤ U.length := by
  obtain ⟨t, u, rfl, h3, h4⟩ := mt_append.1 h1
  have := h.ahead t (u ++ Y) (by rw [← List.append_assoc]; exact hs) h3 (mt_append.2 ⟨u, Y, rfl, h4, h2⟩)
  rw [lit_mt h.lit] at h4
  subst h4
  simp at this; omega

theorem Inv.reach' (h : Inv pat name A G L P B H U mn fw) : Mt (G ++ L) (H ++ L) := mt_append.2 ⟨H, L, rfl, h.reach, (lit_mt h.lit).2 rfl⟩

theorem Inv.whole (h : Inv pat name A G L P B H U mn fw) (h1 : Mt P U) : Mt pat name := by
  have : Mt (G ++ (L ++ P)) (H ++ (L ++ U)) := mt_append.2 ⟨H, L ++ U, rfl, h.reach, mt_append.2 ⟨L, U, rfl, (lit_mt h.lit).2 rfl, h1⟩⟩
  rw [h.just]
  cases mn
  · exact this
  · exact ⟨_, List.suffix_refl _, this⟩

theorem Inv.onto (h : Inv pat name A G L P B H U mn fw) (h1 : Mt pat name) : ∃ V, V <:+ H ++ (L ++ U) ∧ Mt (G ++ (L ++ P)) V := by
  rw [h.just] at h1
  cases mn
  · exact ⟨_, List.suffix_refl _, h1⟩
  · exact h1

theorem Inv.many {P' : List UInt8} (h : Inv pat name A G L (42 :: P') B H U mn fw) : Inv pat name (A ++ (G ++ (L ++ [42]))) [] [] P' (B ++ (H ++ L)) [] U true false where
  pat_eq := by rw [h.pat_eq]; simp
  name_eq := by rw [h.name_eq]; simp
  reach := rfl
  star := by simp
  lit := fun c h => by cases h
  few := fun h => by cases h
  nofew := fun _ => rfl
  nomany := fun h => by cases h
  ahead := fun X Y hs _ _ => by have := hs.length_le; simp at this ⊢; omega
  just := by
    constructor
    · intro hm
      obtain ⟨V, hV, h1⟩ := h.onto hm
      rw [← List.append_assoc] at h1
      obtain ⟨t, u, rfl, h2, h3⟩ := mt_append.1 h1
      have hle := h.ahead' hV h2 h3
      obtain ⟨v, w, rfl, _, h4⟩ := h3
      refine ⟨w, ?_, by simpa using h4⟩
      have : v ++ w <:+ U := suf_le (((List.suffix_append _ _).trans hV).trans h.suf) h.suf3 hle
      simpa using (List.suffix_append _ _).trans this
    · rintro ⟨V, hV, h1⟩
      obtain ⟨t, ht⟩ := hV
      exact h.whole ⟨t, V, by simpa using ht.symm, by simp [One], by simpa using h1⟩

theorem Inv.few1 {P' : List UInt8} (h : Inv pat name A G L (37 :: P') B H U mn fw) : Inv pat name A (G ++ (L ++ [37])) [] P' B (H ++ L) U mn true where
  pat_eq := by rw [h.pat_eq]; simp
  name_eq := by rw [h.name_eq]; simp
  reach := by
    rw [← List.append_assoc]
    exact mt_append.2 ⟨H ++ L, [], by simp, h.reach', [], [], rfl, by simp [One], rfl⟩
  star := by
    have h1 := h.star
    have h2 : 42 ∉ L := fun hm => (h.lit _ hm).1 rfl
    simp [h1, h2]
  lit := fun c h => by cases h
  few := fun _ => ⟨G ++ L, by simp⟩
  nofew := fun h => by cases h
  nomany := h.nomany
  ahead := fun X Y hs h1 h2 => by
    rw [← List.append_assoc] at h1
    obtain ⟨t, u, rfl, h3, h4⟩ := mt_append.1 h1
    have hu : Mt (37 :: P') (u ++ Y) := by
      obtain ⟨a, b, rfl, h5, h6⟩ := h4
      have h6' : b = [] := h6
      subst h6'
      exact ⟨a, Y, by simp, h5, by simpa using h2⟩
    have := h.ahead' (by simpa using hs) h3 hu
    simp at this ⊢; omega
  just := by
    rw [h.just]; simp

theorem Inv.step {c : UInt8} {P' U' : List UInt8} (h : Inv pat name A G L (c :: P') B H (c :: U') mn fw) (hc : c ≠ 42 ∧ c ≠ 37) : Inv pat name A G (L ++ [c]) P' B H U' mn fw where
  pat_eq := by rw [h.pat_eq]; simp
  name_eq := by rw [h.name_eq]; simp
  reach := h.reach
  star := h.star
  lit := fun d hd => by
    rcases List.mem_append.1 hd with h1 | h1
    · exact h.lit d h1
    · rw [List.mem_singleton] at h1
      subst h1; exact hc
  few := h.few
  nofew := h.nofew
  nomany := h.nomany
  ahead := fun X Y hs h1 h2 => by
    have := h.ahead X Y (by simpa using hs) h1 (by simpa using h2)
    simp at this ⊢; omega
  just := by rw [h.just]; simp

theorem Inv.back1 {c : UInt8} {W : List UInt8} (h : Inv pat name A G L P B H U mn true) (hf : ¬ Mt P U) (hw : L ++ U = c :: W) (hc : c ≠ 47) : Inv pat name A G [] (L ++ P) B (H ++ [c]) W mn true where
  pat_eq := h.pat_eq
  name_eq := by rw [h.name_eq, hw]; simp
  reach := by
    obtain ⟨G0, hG⟩ := h.few rfl
    have := h.reach
    rw [hG] at this ⊢
    obtain ⟨t, u, rfl, h1, a, b, rfl, h2, h3⟩ := mt_append.1 this
    have h3' : b = [] := h3
    subst h3'
    refine mt_append.2 ⟨t, a ++ [c], by simp, h1, a ++ [c], [], by simp, ?_, rfl⟩
    simp [One] at h2 ⊢
    exact ⟨h2, fun h => hc h.symm⟩
  star := h.star
  lit := fun c h => by cases h
  few := h.few
  nofew := h.nofew
  nomany := h.nomany
  ahead := fun X Y hs h1 h2 => by
    have hs' : X ++ Y <:+ H ++ (L ++ U) := by rw [hw]; simpa using hs
    have h3 := h.ahead X Y hs' h1 (by simpa using h2)
    rw [hw] at h3
    simp only [List.length_cons, List.nil_append] at h3 ⊢
    rcases Nat.lt_or_ge W.length Y.length with hlt | hge
    · exfalso
      have : Y = L ++ U := suf_eq (n := H ++ (L ++ U)) ((List.suffix_append _ _).trans hs') (List.suffix_append _ _) (by rw [hw]; simp; omega)
      subst this
      obtain ⟨a, b, h4, h5, h6⟩ := mt_append.1 (show Mt (L ++ P) (L ++ U) by simpa using h2)
      rw [lit_mt h.lit] at h5
      subst h5
      rw [List.append_cancel_left h4] at hf
      exact hf h6
    · exact hge
  just := by rw [h.just, hw]; simp

/-- Nothing begins at the start when the few are used up. -/
theorem Inv.used (h : Inv pat name A G L P B H U mn fw) (hf : ¬ Mt P U) (hu : fw = true → ∀ c W, L ++ U = c :: W → c = 47) : ¬ Mt (G ++ (L ++ P)) (H ++ (L ++ U)) := by
  intro hm
  obtain ⟨X, Y, he, h1, h2⟩ := mt_append.1 hm
  have hle := h.ahead X Y (by rw [he]; exact List.suffix_refl _) h1 h2
  have hXH : X = H ∧ Y = L ++ U := by
    cases hfw : fw
    · have hg := h.nofew hfw
      subst hg
      have e1 : X = [] := h1
      have e2 : H = [] := h.reach
      subst e1 e2
      exact ⟨rfl, he.symm⟩
    · have hlen : (H ++ (L ++ U)).length = (X ++ Y).length := by rw [he]
      simp only [List.length_append] at hlen hle
      have hpre : H <+: X := List.prefix_of_prefix_length_le ⟨L ++ U, rfl⟩ ⟨Y, he.symm⟩ (by omega)
      obtain ⟨T, rfl⟩ := hpre
      rw [List.append_assoc] at he
      have he' := List.append_cancel_left he
      cases T with
      | nil => exact ⟨by simp, by simpa using he'.symm⟩
      | cons c T =>
        have hc : c = 47 := hu hfw c (T ++ Y) (by rw [he']; rfl)
        subst hc
        have c1 := mt_count h.star h1
        have c2 := mt_count h.star h.reach
        rw [List.count_append, c2, List.count_cons_self] at c1
        omega
  obtain ⟨rfl, rfl⟩ := hXH
  obtain ⟨a, b, h4, h5, h6⟩ := mt_append.1 h2
  rw [lit_mt h.lit] at h5
  subst h5
  rw [List.append_cancel_left h4] at hf
  exact hf h6

theorem Inv.back2 {c : UInt8} {W : List UInt8} (h : Inv pat name A G L P B H U true fw) (hf : ¬ Mt P U) (hu : fw = true → ∀ c W, L ++ U = c :: W → c = 47) (hw : H ++ (L ++ U) = c :: W) :
    Inv pat name A [] [] (G ++ (L ++ P)) (B ++ [c]) [] W true false where
  pat_eq := h.pat_eq
  name_eq := by rw [h.name_eq, hw]; simp
  reach := rfl
  star := by simp
  lit := fun c h => by cases h
  few := fun h => by cases h
  nofew := fun _ => rfl
  nomany := fun h => by cases h
  ahead := fun X Y hs _ _ => by have := hs.length_le; simp at this ⊢; omega
  just := by
    rw [h.just]
    simp only [if_true, List.nil_append]
    constructor
    · rintro ⟨V, hV, h1⟩
      rw [hw, List.suffix_cons_iff] at hV
      rcases hV with rfl | hV
      · rw [← hw] at h1
        exact absurd h1 (h.used hf hu)
      · exact ⟨V, hV, h1⟩
    · rintro ⟨V, hV, h1⟩
      exact ⟨V, hV.trans (by rw [hw]; exact List.suffix_cons _ _), h1⟩

theorem Inv.fail (h : Inv pat name A G L P B H U mn fw) (hf : ¬ Mt P U) (hu : fw = true → ∀ c W, L ++ U = c :: W → c = 47) (hm : mn = true → H ++ (L ++ U) = []) : ¬ Mt pat name := by
  rw [h.just]
  cases mn
  · exact h.used hf hu
  · rintro ⟨V, hV, h1⟩
    rw [hm rfl, List.suffix_nil] at hV
    subst hV
    have := h.used hf hu
    rw [hm rfl] at this
    exact this h1

theorem not_mt {P U : List UInt8} (h1 : ∀ P', P ≠ 42 :: P') (h2 : ∀ P', P ≠ 37 :: P') (h3 : ¬ (P = [] ∧ U = [])) (h4 : ∀ c P' U', P = c :: P' → U = c :: U' → False) : ¬ Mt P U := by
  intro h
  cases P with
  | nil => exact h3 ⟨rfl, h⟩
  | cons c P =>
    obtain ⟨t, u, rfl, h5, _⟩ := h
    have hc1 : ¬ c = 42 := fun h => h1 P (by rw [h])
    have hc2 : ¬ c = 37 := fun h => h2 P (by rw [h])
    simp only [One, if_neg hc1, if_neg hc2] at h5
    subst h5
    exact h4 c P u rfl rfl

end Go.Gl
