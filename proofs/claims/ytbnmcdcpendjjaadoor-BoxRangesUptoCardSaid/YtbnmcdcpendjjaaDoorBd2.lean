/- Ranges that rise, of which no two touch. -/
import Derived.Tactics
namespace Go.Bd
set_option maxRecDepth 100000

abbrev Pr : Type := Int × (Int × Unit)

def ins (p : Pr) (n : Int) : Prop := p.1 ≤ n ∧ n ≤ p.2.1
def mem (l : List Pr) (n : Int) : Prop := ∃ p, p ∈ l ∧ ins p n

structure Can (l : List Pr) : Prop where
  rise : l.Pairwise (fun a b => a.2.1 + 1 < b.1)
  full : ∀ p ∈ l, p.1 ≤ p.2.1

theorem mem_nil (n : Int) : ¬ mem [] n := fun ⟨_, h, _⟩ => by cases h
theorem mem_cons {a : Pr} {t : List Pr} {n : Int} : mem (a :: t) n ↔ ins a n ∨ mem t n := by
  constructor
  · rintro ⟨p, hp, h⟩
    rcases List.mem_cons.mp hp with rfl | hp
    · exact .inl h
    · exact .inr ⟨p, hp, h⟩
  · rintro (h | ⟨p, hp, h⟩)
    · exact ⟨a, List.mem_cons_self .., h⟩
    · exact ⟨p, List.mem_cons_of_mem _ hp, h⟩
theorem mem_append {a t : List Pr} {n : Int} : mem (a ++ t) n ↔ mem a n ∨ mem t n := by
  constructor
  · rintro ⟨p, hp, h⟩
    rcases List.mem_append.mp hp with hp | hp
    · exact .inl ⟨p, hp, h⟩
    · exact .inr ⟨p, hp, h⟩
  · rintro (⟨p, hp, h⟩ | ⟨p, hp, h⟩)
    · exact ⟨p, List.mem_append_left _ hp, h⟩
    · exact ⟨p, List.mem_append_right _ hp, h⟩
theorem mem_one {a : Pr} {n : Int} : mem [a] n ↔ ins a n := by
  rw [mem_cons]
  exact ⟨fun h => h.elim id fun h => absurd h (mem_nil n), .inl⟩

theorem Can.nil : Can [] := ⟨List.Pairwise.nil, fun _ h => by cases h⟩
theorem Can.tail {a : Pr} {t : List Pr} (h : Can (a :: t)) : Can t := ⟨(List.pairwise_cons.mp h.rise).2, fun p hp => h.full p (List.mem_cons_of_mem _ hp)⟩
theorem Can.least {a : Pr} {t : List Pr} (h : Can (a :: t)) {n : Int} (hn : mem t n) : a.2.1 + 1 < n := by
  obtain ⟨p, hp, h1, _⟩ := hn
  have := (List.pairwise_cons.mp h.rise).1 p hp
  omega

/-- What ranges hold determines them. -/
theorem can_unique : ∀ {l l' : List Pr}, Can l → Can l' → (∀ n, mem l n ↔ mem l' n) → l = l'
  | [], [], _, _, _ => rfl
  | [], b :: t, _, hb, h => by
    have := (h b.1).mpr (mem_cons.mpr (.inl ⟨Int.le_refl _, hb.full b (List.mem_cons_self ..)⟩))
    exact absurd this (mem_nil _)
  | a :: t, [], ha, _, h => by
    have := (h a.1).mp (mem_cons.mpr (.inl ⟨Int.le_refl _, ha.full a (List.mem_cons_self ..)⟩))
    exact absurd this (mem_nil _)
  | a :: t, b :: s, ha, hb, h => by
    have fa := ha.full a (List.mem_cons_self ..)
    have fb := hb.full b (List.mem_cons_self ..)
    have low : ∀ {x y : Pr} {u v : List Pr}, Can (y :: v) → (∀ n, mem (x :: u) n ↔ mem (y :: v) n) → x.1 ≤ x.2.1 → y.1 ≤ y.2.1 → y.1 ≤ x.1 := fun {x y u v} hy h hx hyf => by
      rcases mem_cons.mp ((h x.1).mp (mem_cons.mpr (.inl ⟨Int.le_refl _, hx⟩))) with h' | h'
      · exact h'.1
      · have := hy.least h'; omega
    have e1 : a.1 = b.1 := by
      have := low hb h fa fb
      have := low ha (fun n => (h n).symm) fb fa
      omega
    have high : ∀ {x y : Pr} {u v : List Pr}, Can (x :: u) → (∀ n, mem (x :: u) n ↔ mem (y :: v) n) → x.1 = y.1 → x.1 ≤ x.2.1 → y.1 ≤ y.2.1 → y.2.1 ≤ x.2.1 := fun {x y u v} hx h e f1 f2 => by
      rcases Int.lt_or_le x.2.1 y.2.1 with hlt | hle
      · rcases mem_cons.mp ((h (x.2.1 + 1)).mpr (mem_cons.mpr (.inl ⟨by omega, by omega⟩))) with h' | h'
        · have := h'.2; omega
        · have := hx.least h'; omega
      · exact hle
    have e2 : a.2.1 = b.2.1 := by
      have := high ha h e1 fa fb
      have := high hb (fun n => (h n).symm) e1.symm fb fa
      omega
    have e : a = b := by
      obtain ⟨x, y, u⟩ := a
      obtain ⟨x', y', u'⟩ := b
      simp only at e1 e2
      subst e1 e2
      rfl
    subst e
    have ht : ∀ n, mem t n ↔ mem s n := fun n => by
      constructor
      · intro hn
        rcases mem_cons.mp ((h n).mp (mem_cons.mpr (.inr hn))) with h' | h'
        · have := ha.least hn; have := h'.2; omega
        · exact h'
      · intro hn
        rcases mem_cons.mp ((h n).mpr (mem_cons.mpr (.inr hn))) with h' | h'
        · have := hb.least hn; have := h'.2; omega
        · exact h'
    rw [can_unique ha.tail hb.tail ht]

/-! merging -/
abbrev nop : Pr := (0, 0, ())

def mstep (out : List Pr) (p : Pr) : List Pr :=
  if 0 < out.length ∧ p.1 ≤ (out.getD (out.length - 1) nop).2.1 + 1 then out.set (out.length - 1) ((out.getD (out.length - 1) nop).1, if (out.getD (out.length - 1) nop).2.1 < p.2.1 then p.2.1 else (out.getD (out.length - 1) nop).2.1, ())
  else out ++ [p]

theorem last_set : ∀ (a : List Pr) (x y : Pr), (a ++ [x]).set a.length y = a ++ [y]
  | [], _, _ => rfl
  | b :: a, x, y => by
    simp only [List.cons_append, List.length_cons, List.set_cons_succ, last_set a x y]

theorem last_get (a : List Pr) (x d : Pr) : (a ++ [x]).getD a.length d = x := by
  rw [List.getD_eq_getElem?_getD, List.getElem?_append_right (Nat.le_refl _)]
  simp

theorem mstep_ok {out : List Pr} {p : Pr} (hc : Can out) (hp : p.1 ≤ p.2.1) (hl : ∀ q ∈ out, q.1 ≤ p.1) :
    Can (mstep out p) ∧ (∀ n, mem (mstep out p) n ↔ mem out n ∨ ins p n) ∧ ∀ q ∈ mstep out p, q.1 ≤ p.1 := by
  rcases List.eq_nil_or_concat out with rfl | ⟨a, q, rfl⟩
  · have e : mstep [] p = [p] := rfl
    rw [e]
    refine ⟨⟨List.pairwise_singleton _ _, fun x hx => ?_⟩, fun n => ?_, fun x hx => ?_⟩
    · rw [List.mem_singleton.mp hx]; exact hp
    · rw [mem_one]; exact ⟨.inr, fun h => h.elim (fun h => absurd h (mem_nil n)) id⟩
    · rw [List.mem_singleton.mp hx]; exact Int.le_refl _
  · rw [List.concat_eq_append] at *
    have hlen : (a ++ [q]).length - 1 = a.length := by simp
    have hpos : 0 < (a ++ [q]).length := by simp
    have hq := hl q (by simp)
    have fq := hc.full q (by simp)
    obtain ⟨r1, _, r3⟩ := List.pairwise_append.mp hc.rise
    unfold mstep
    rw [hlen, last_get, last_set]
    by_cases ht : p.1 ≤ q.2.1 + 1
    · rw [if_pos ⟨hpos, ht⟩]
      refine ⟨⟨List.pairwise_append.mpr ⟨r1, List.pairwise_singleton _ _, fun x hx y hy => ?_⟩, fun x hx => ?_⟩, fun n => ?_, fun x hx => ?_⟩
      · rw [List.mem_singleton.mp hy]; exact r3 x hx q (by simp)
      · rcases List.mem_append.mp hx with hx | hx
        · exact hc.full x (List.mem_append_left _ hx)
        · rw [List.mem_singleton.mp hx]; simp only; split <;> omega
      · rw [mem_append, mem_append, mem_one, mem_one, or_assoc]
        refine or_congr Iff.rfl ?_
        simp only [ins]
        split <;> omega
      · rcases List.mem_append.mp hx with hx | hx
        · exact hl x (List.mem_append_left _ hx)
        · rw [List.mem_singleton.mp hx]; exact hq
    · rw [if_neg (fun h => ht h.2)]
      refine ⟨⟨List.pairwise_append.mpr ⟨hc.rise, List.pairwise_singleton _ _, fun x hx y hy => ?_⟩, fun x hx => ?_⟩, fun n => ?_, fun x hx => ?_⟩
      · rw [List.mem_singleton.mp hy]
        rcases List.mem_append.mp hx with hx | hx
        · have := r3 x hx q (by simp)
          omega
        · rw [List.mem_singleton.mp hx]; omega
      · rcases List.mem_append.mp hx with hx | hx
        · exact hc.full x hx
        · rw [List.mem_singleton.mp hx]; exact hp
      · rw [mem_append (t := [p]), mem_one]
      · rcases List.mem_append.mp hx with hx | hx
        · exact hl x hx
        · rw [List.mem_singleton.mp hx]; exact Int.le_refl _

theorem merge_ok : ∀ (l out : List Pr), Can out → (∀ q ∈ out, ∀ p ∈ l, q.1 ≤ p.1) → l.Pairwise (fun a b => a.1 ≤ b.1) → (∀ p ∈ l, p.1 ≤ p.2.1) →
    Can (l.foldl mstep out) ∧ ∀ n, mem (l.foldl mstep out) n ↔ mem out n ∨ mem l n
  | [], out, hc, _, _, _ => ⟨hc, fun n => ⟨.inl, fun h => h.elim id fun h => absurd h (mem_nil n)⟩⟩
  | p :: l, out, hc, hl, hs, hf => by
    obtain ⟨s1, s2⟩ := List.pairwise_cons.mp hs
    obtain ⟨m1, m2, m3⟩ := mstep_ok hc (hf p (List.mem_cons_self ..)) (fun q hq => hl q hq p (List.mem_cons_self ..))
    obtain ⟨g1, g2⟩ := merge_ok l (mstep out p) m1 (fun q hq x hx => by
      have := m3 q hq
      have := s1 x hx
      omega) s2 (fun x hx => hf x (List.mem_cons_of_mem _ hx))
    refine ⟨g1, fun n => ?_⟩
    rw [List.foldl_cons, g2 n, m2 n, mem_cons, or_assoc]

/-! laying a range into others -/
def apart (r p : Pr) : Prop := r.2.1 + 1 < p.1 ∨ p.2.1 + 1 < r.1
instance (r p : Pr) : Decidable (apart r p) := by unfold apart; exact inferInstance

def astep (st : Pr × List Pr) (o : Pr) : Pr × List Pr :=
  if apart o st.1 then (st.1, st.2 ++ [o])
  else ((if o.1 < st.1.1 then o.1 else st.1.1, if st.1.2.1 < o.2.1 then o.2.1 else st.1.2.1, ()), st.2)

theorem absorb_ok : ∀ (l : List Pr) (p : Pr) (rest : List Pr), Can (rest ++ l) → p.1 ≤ p.2.1 → (∀ r ∈ rest, apart r p) →
    Can (l.foldl astep (p, rest)).2 ∧ (l.foldl astep (p, rest)).1.1 ≤ (l.foldl astep (p, rest)).1.2.1 ∧ (∀ r ∈ (l.foldl astep (p, rest)).2, apart r (l.foldl astep (p, rest)).1) ∧
    ∀ n, (mem (l.foldl astep (p, rest)).2 n ∨ ins (l.foldl astep (p, rest)).1 n) ↔ (mem rest n ∨ mem l n ∨ ins p n)
  | [], p, rest, hc, hp, ha => by
    rw [List.append_nil] at hc
    exact ⟨hc, hp, ha, fun n => ⟨fun h => h.elim .inl fun h => .inr (.inr h), fun h => h.elim .inl fun h => h.elim (fun h => absurd h (mem_nil n)) .inr⟩⟩
  | o :: l, p, rest, hc, hp, ha => by
    rw [List.foldl_cons]
    have fo := hc.full o (by simp)
    by_cases h : apart o p
    · have e : astep (p, rest) o = (p, rest ++ [o]) := if_pos h
      rw [e]
      obtain ⟨g1, g2, g3, g4⟩ := absorb_ok l p (rest ++ [o]) (by rw [List.append_assoc]; exact hc) hp (fun r hr => by
        rcases List.mem_append.mp hr with hr | hr
        · exact ha r hr
        · rw [List.mem_singleton.mp hr]; exact h)
      refine ⟨g1, g2, g3, fun n => ?_⟩
      rw [g4 n, mem_append, mem_one, mem_cons, or_assoc, or_assoc]
    · have e : astep (p, rest) o = ((if o.1 < p.1 then o.1 else p.1, if p.2.1 < o.2.1 then o.2.1 else p.2.1, ()), rest) := if_neg h
      rw [e]
      obtain ⟨r1, r2, r3⟩ := List.pairwise_append.mp hc.rise
      have hcd : Can (rest ++ l) := ⟨List.pairwise_append.mpr ⟨r1, (List.pairwise_cons.mp r2).2, fun x hx y hy => r3 x hx y (List.mem_cons_of_mem _ hy)⟩, fun x hx => hc.full x (by
        rcases List.mem_append.mp hx with hx | hx
        · exact List.mem_append_left _ hx
        · exact List.mem_append_right _ (List.mem_cons_of_mem _ hx))⟩
      unfold apart at h
      obtain ⟨g1, g2, g3, g4⟩ := absorb_ok l (if o.1 < p.1 then o.1 else p.1, if p.2.1 < o.2.1 then o.2.1 else p.2.1, ()) rest hcd (by simp only; split <;> split <;> omega) (fun r hr => by
        have h1 := r3 r hr o (List.mem_cons_self ..)
        have h2 := ha r hr
        have h3 := hc.full r (List.mem_append_left _ hr)
        unfold apart at *
        simp only
        split <;> split <;> omega)
      refine ⟨g1, g2, g3, fun n => ?_⟩
      rw [g4 n, mem_cons, or_assoc]
      refine or_congr Iff.rfl ?_
      constructor
      · rintro (h' | h')
        · exact .inr (.inl h')
        · have : ins o n ∨ ins p n := by
            simp only [ins] at *
            split at h' <;> split at h' <;> omega
          exact this.elim .inl fun h => .inr (.inr h)
      · rintro (h' | h' | h')
        · right
          simp only [ins] at *
          split <;> split <;> omega
        · exact .inl h'
        · right
          simp only [ins] at *
          split <;> split <;> omega

def insR (p : Pr) : List Pr → List Pr
  | [] => [p]
  | r :: t => if p.1 < r.1 then p :: r :: t else r :: insR p t

theorem insR_ok {p : Pr} (hp : p.1 ≤ p.2.1) : ∀ {l : List Pr}, Can l → (∀ r ∈ l, apart r p) → Can (insR p l) ∧ (∀ n, mem (insR p l) n ↔ mem l n ∨ ins p n) ∧ ∀ x ∈ insR p l, x = p ∨ x ∈ l
  | [], _, _ => ⟨⟨List.pairwise_singleton _ _, fun x hx => by rw [List.mem_singleton.mp hx]; exact hp⟩, fun n => by rw [insR, mem_one]; exact ⟨.inr, fun h => h.elim (fun h => absurd h (mem_nil n)) id⟩, fun x hx => .inl (List.mem_singleton.mp hx)⟩
  | r :: t, hc, ha => by
    have fr := hc.full r (List.mem_cons_self ..)
    have h1 := ha r (List.mem_cons_self ..)
    obtain ⟨c1, c2⟩ := List.pairwise_cons.mp hc.rise
    unfold insR
    unfold apart at h1
    by_cases h : p.1 < r.1
    · rw [if_pos h]
      refine ⟨⟨List.pairwise_cons.mpr ⟨fun x hx => ?_, hc.rise⟩, fun x hx => ?_⟩, fun n => ?_, fun x hx => ?_⟩
      · rcases List.mem_cons.mp hx with rfl | hx
        · omega
        · have := c1 x hx; omega
      · rcases List.mem_cons.mp hx with rfl | hx
        · exact hp
        · exact hc.full x hx
      · rw [mem_cons (a := p)]; exact Or.comm
      · exact List.mem_cons.mp hx
    · rw [if_neg h]
      obtain ⟨g1, g2, g3⟩ := insR_ok hp hc.tail (fun x hx => ha x (List.mem_cons_of_mem _ hx))
      refine ⟨⟨List.pairwise_cons.mpr ⟨fun x hx => ?_, g1.rise⟩, fun x hx => ?_⟩, fun n => ?_, fun x hx => ?_⟩
      · rcases g3 x hx with rfl | hx
        · omega
        · exact c1 x hx
      · rcases List.mem_cons.mp hx with rfl | hx
        · exact fr
        · exact g1.full x hx
      · rw [mem_cons, g2 n, mem_cons, or_assoc]
      · rcases List.mem_cons.mp hx with rfl | hx
        · exact .inr (List.mem_cons_self ..)
        · exact (g3 x hx).imp id (List.mem_cons_of_mem _)

/-- a range is laid into others -/
def lays (out : List Pr) (p : Pr) : List Pr := insR (out.foldl astep (p, [])).1 (out.foldl astep (p, [])).2

theorem lays_ok {out : List Pr} {p : Pr} (hc : Can out) (hp : p.1 ≤ p.2.1) : Can (lays out p) ∧ ∀ n, mem (lays out p) n ↔ mem out n ∨ ins p n := by
  obtain ⟨g1, g2, g3, g4⟩ := absorb_ok out p [] hc hp (fun r hr => by cases hr)
  obtain ⟨h1, h2, _⟩ := insR_ok g2 g1 g3
  refine ⟨h1, fun n => ?_⟩
  show mem (insR _ _) n ↔ _
  rw [h2 n, g4 n]
  exact ⟨fun h => h.elim (fun h => absurd h (mem_nil n)) id, .inr⟩

theorem layall_ok : ∀ (l out : List Pr), Can out → (∀ p ∈ l, p.1 ≤ p.2.1) → Can (l.foldl lays out) ∧ ∀ n, mem (l.foldl lays out) n ↔ mem out n ∨ mem l n
  | [], out, hc, _ => ⟨hc, fun n => ⟨.inl, fun h => h.elim id fun h => absurd h (mem_nil n)⟩⟩
  | p :: l, out, hc, hf => by
    obtain ⟨m1, m2⟩ := lays_ok hc (hf p (List.mem_cons_self ..))
    obtain ⟨g1, g2⟩ := layall_ok l (lays out p) m1 (fun x hx => hf x (List.mem_cons_of_mem _ hx))
    refine ⟨g1, fun n => ?_⟩
    rw [List.foldl_cons, g2 n, m2 n, mem_cons, or_assoc]

/-- Sorted and merged is the same as laid one by one. -/
theorem merge_lays {l s : List Pr} (hm : ∀ x, x ∈ s ↔ x ∈ l) (hs : s.Pairwise (fun a b => a.1 ≤ b.1)) (hf : ∀ p ∈ l, p.1 ≤ p.2.1) : s.foldl mstep [] = l.foldl lays [] := by
  obtain ⟨a1, a2⟩ := merge_ok s [] Can.nil (fun q hq => by cases hq) hs (fun p hp => hf p ((hm p).mp hp))
  obtain ⟨b1, b2⟩ := layall_ok l [] Can.nil hf
  refine can_unique a1 b1 fun n => ?_
  rw [a2 n, b2 n]
  refine or_congr Iff.rfl ?_
  constructor
  · rintro ⟨p, hp, h⟩; exact ⟨p, (hm p).mp hp, h⟩
  · rintro ⟨p, hp, h⟩; exact ⟨p, (hm p).mpr hp, h⟩

end Go.Bd
