/- States put into shapes. -/
import Derived.Test.YtgfecebcaepjfaaGreatDoorEvN
namespace Go.Ev
open Go

/-- More is bound than was. -/
structure Ext (B B' : Bd) : Prop where
  m : ∀ j b, findB B.m j = some b → findB B'.m j = some b
  z : ∀ b, b ∈ B.z → b ∈ B'.z

theorem Ext.refl (B : Bd) : Ext B B := ⟨fun _ _ h => h, fun _ h => h⟩
theorem Ext.trans {A B C : Bd} (h : Ext A B) (h' : Ext B C) : Ext A C := ⟨fun j b hh => h'.m j b (h.m j b hh), fun b hh => h'.z b (h.z b hh)⟩

theorem eqON_eq : ∀ {x y : Option Nat}, eqON x y = true → x = y
  | none, none, _ => rfl
  | some _, some _, h => by rw [Nat.eq_of_beq_eq_true h]
  | none, some _, h => by cases h
  | some _, none, h => by cases h

theorem bindB_ok {α : Type} {r : α} {B : Bd} {j : Nat} {b : Option Nat} {K : Bd → Option α} (h : bindB B j b K = some r) : ∃ B', K B' = some r ∧ Ext B B' ∧ findB B'.m j = some b := by
  unfold bindB at h
  cases hf : findB B.m j with
  | none =>
    simp only [hf] at h
    refine ⟨_, h, ⟨fun k c hk => ?_, fun _ h => h⟩, by simp [findB]⟩
    have hne : Nat.beq j k = false := Bool.eq_false_iff.2 fun e => by rw [Nat.eq_of_beq_eq_true e, hk] at hf; cases hf
    simp [findB, hne, hk]
  | some b' =>
    simp only [hf] at h
    obtain ⟨h1, h2⟩ := cond_some h
    rw [eqON_eq h1] at hf
    exact ⟨B, h2, Ext.refl B, hf⟩

def Bd.bs (B : Bd) : List Nat := B.m.filterMap (·.2)

theorem findB_mem : ∀ {m : List (Nat × Option Nat)} {j b : Nat}, findB m j = some (some b) → b ∈ m.filterMap (·.2)
  | [], _, _, h => by simp [findB] at h
  | (k, o) :: m, j, b, h => by
    simp only [findB] at h
    cases hk : Nat.beq k j with
    | true => simp only [hk, cond_true, Option.some.injEq] at h; subst h; simp
    | false =>
      simp only [hk, cond_false] at h
      have := findB_mem h
      simp only [List.mem_filterMap] at this ⊢
      obtain ⟨q, hq, he⟩ := this
      exact ⟨q, List.mem_cons_of_mem _ hq, he⟩

theorem nodupN_ok : ∀ {l : List Nat}, nodupN l = true → l.Nodup
  | [], _ => List.nodup_nil
  | x :: l, h => by
    simp only [nodupN, Bool.and_eq_true, Bool.not_eq_true'] at h
    refine List.nodup_cons.2 ⟨fun hm => ?_, nodupN_ok h.2⟩
    have : (l.any fun y => Nat.beq x y) = true := List.any_eq_true.2 ⟨x, hm, Nat.beq_refl x⟩
    rw [this] at h
    exact absurd h.1 (by simp)

theorem nodup_tail {k : Nat} {o : Option Nat} {m : List (Nat × Option Nat)} (hn : (((k, o) :: m).filterMap (·.2)).Nodup) : (m.filterMap (·.2)).Nodup ∧ ∀ b, o = some b → b ∉ m.filterMap (·.2) := by
  cases o with
  | none => exact ⟨by simpa using hn, fun b h => by cases h⟩
  | some c =>
    have h := List.nodup_cons.1 (show (c :: m.filterMap (·.2)).Nodup from hn)
    exact ⟨h.2, fun b hb => by cases hb; exact h.1⟩

theorem findB_inj : ∀ {m : List (Nat × Option Nat)} {j j' b : Nat}, (m.filterMap (·.2)).Nodup → findB m j = some (some b) → findB m j' = some (some b) → j = j'
  | [], _, _, _, _, h, _ => by simp [findB] at h
  | (k, o) :: m, j, j', b, hn, h, h' => by
    simp only [findB] at h h'
    obtain ⟨hn', hn2⟩ := nodup_tail hn
    cases hk : Nat.beq k j with
    | true =>
      simp only [hk, cond_true, Option.some.injEq] at h
      subst h
      cases hk' : Nat.beq k j' with
      | true => rw [← Nat.eq_of_beq_eq_true hk, ← Nat.eq_of_beq_eq_true hk']
      | false =>
        simp only [hk', cond_false] at h'
        exact absurd (findB_mem h') (hn2 b rfl)
    | false =>
      simp only [hk, cond_false] at h
      cases hk' : Nat.beq k j' with
      | true =>
        simp only [hk', cond_true, Option.some.injEq] at h'
        subst h'
        exact absurd (findB_mem h) (hn2 b rfl)
      | false =>
        simp only [hk', cond_false] at h'
        exact findB_inj hn' h h'

theorem Bd.ok_inj {B : Bd} (h : B.ok = true) {j j' b : Nat} (h1 : findB B.m j = some (some b)) (h2 : findB B.m j' = some (some b)) : j = j' := by
  simp only [Bd.ok, Bool.and_eq_true] at h
  exact findB_inj (nodupN_ok h.1) h1 h2

theorem Bd.ok_z {B : Bd} (h : B.ok = true) {j b : Nat} (h1 : findB B.m j = some (some b)) : b ∉ B.z := fun hz => by
  simp only [Bd.ok, Bool.and_eq_true] at h
  have := List.all_eq_true.1 h.2 b (findB_mem h1)
  have h2 : (B.z.any fun y => Nat.beq b y) = true := List.any_eq_true.2 ⟨b, hz, Nat.beq_refl b⟩
  rw [h2] at this
  cases this

/-- Which block of the world a number stands for, behind the turn. -/
def muB (μ : Nat → Option Nat) (B : Bd) (j : Nat) : Option Nat :=
  match findB B.m j with
  | some (some b) => μ b
  | _ => none

/-- Where a block of the new heap comes from. -/
def From (pin : Nat) (H : Nat → Blk) (B : Bd) (j : Nat) (blk : Blk) : Prop :=
  match findB B.m j with
  | some (some b) => H b ≠ .dead ∧ (∀ t l, H b = .data t l → blk = .data t l) ∧ (j < pin → b = j) ∧ (blk.tag ≠ 0 → (H b).tag = blk.tag)
  | some none => pin ≤ j ∧ ((∃ t, blk = .data t []) ∨ (∃ cs, blk = .vars cs) ∨ ∃ kt vt ag l, blk = .mapd kt vt ag l)
  | none => False

theorem From.ext {pin : Nat} {H : Nat → Blk} {B B' : Bd} {j : Nat} {blk : Blk} (he : Ext B B') (h : From pin H B j blk) : From pin H B' j blk := by
  unfold From at *
  cases hf : findB B.m j with
  | none => simp [hf] at h
  | some b => rw [he.m j b hf]; simpa [hf] using h

/-- A block of the kind that a shape tells. -/
def Kin : BSh → Blk → Prop
  | .vars _, b => ∃ cs, b = .vars cs
  | .data t, b => ∃ l, b = .data t l
  | .iter, b => ∃ s p, b = .iter s p
  | .mapd kt vt ag, b => ∃ l, b = .mapd kt vt ag l

theorem Kin.live {s : BSh} {b : Blk} (h : Kin s b) : b ≠ .dead := by
  cases s <;> simp only [Kin] at h
  · obtain ⟨_, rfl⟩ := h; simp
  · obtain ⟨_, rfl⟩ := h; simp
  · obtain ⟨_, _, rfl⟩ := h; simp
  · obtain ⟨_, rfl⟩ := h; simp

theorem Kin.tag {s : BSh} {b : Blk} (h : Kin s b) : b.tag = s.tag := by
  cases s <;> simp only [Kin] at h
  · obtain ⟨_, rfl⟩ := h; rfl
  · obtain ⟨_, rfl⟩ := h; rfl
  · obtain ⟨_, _, rfl⟩ := h; rfl
  · obtain ⟨_, rfl⟩ := h; rfl

theorem unB_kin : ∀ (s : BSh) (p : s.den), Kin s (unB s p)
  | .vars _, _ => ⟨_, rfl⟩
  | .data _, _ => ⟨_, rfl⟩
  | .iter, _ => ⟨_, _, rfl⟩
  | .mapd _ _ _, _ => ⟨_, rfl⟩

section
variable {T : Tb} {F : Frm T} {μ : Nat → Option Nat} {H : Nat → Blk} {nx : Nat} {w : World} {α : Type} {r : α} {pin : Nat} {bl : List (Nat × BSh)}

/-- The new heap, once all is bound. -/
structure Fin {T : Tb} (F F' : Frm T) (μ : Nat → Option Nat) (pin : Nat) (H : Nat → Blk) (bl : List (Nat × BSh)) (B : Bd) (H' : Nat → Blk) : Prop where
  ok : B.ok = true
  src : ∀ j, H' j ≠ .dead → From pin H B j (H' j)
  kin : ∀ j s, kindIn bl j = some s → Kin s (H' j)
  sub : ∀ g, F' g → Not F μ H g
  zsep : ∀ b g, b ∈ B.z → H b ≠ .dead → μ b = some g → ¬ F' g

variable {F' : Frm T} {B : Bd} {H' : Nat → Blk}

theorem Fin.trk (h : Fin F F' μ pin H bl B H') {g : Nat} (ht : Trk (muB μ B) H' g) : Trk μ H g := by
  obtain ⟨j, h1, h2⟩ := ht
  have h3 := h.src j h1
  unfold From at h3
  unfold muB at h2
  cases hf : findB B.m j with
  | none => simp [hf] at h2
  | some o =>
    cases o with
    | none => simp [hf] at h2
    | some b => simp only [hf] at h2 h3; exact ⟨b, h3.1, h2⟩

theorem Fin.not (h : Fin F F' μ pin H bl B H') {g : Nat} (hn : Not F' (muB μ B) H' g) : Not F μ H g := hn.elim (h.sub g) fun ht => .inr (h.trk ht)

theorem Fin.z (h : Fin F F' μ pin H bl B H') (hp : Hp F μ H nx w) {b g : Nat} (hb : b ∈ B.z) (hl : H b ≠ .dead) (hg : μ b = some g) : ¬ Not F' (muB μ B) H' g := by
  rintro (hF | ⟨j, h1, h2⟩)
  · exact h.zsep b g hb hl hg hF
  · have h3 := h.src j h1
    unfold From at h3
    unfold muB at h2
    cases hf : findB B.m j with
    | none => simp [hf] at h2
    | some o =>
      cases o with
      | none => simp [hf] at h2
      | some b' =>
        simp only [hf] at h2 h3
        have := hp.inj b b' g hl h3.1 hg h2
        subst this
        exact Bd.ok_z h.ok hf hb

theorem keepRefl (w : World) {N : Nat → Prop} : Keep N w w := Keep.refl w

/-- Data in a slice of its own block is plain data, once the block is given up. -/
theorem plain_of_rows (h : Fin F F' μ pin H bl B H') (hp : Hp F μ H nx w) {t : Ty} {l : List t.den} {v : Value} (hs : SlRow w (Not F μ H) t l v) (hg : ∀ g o n c, v = .slice (some ⟨g, o, none⟩) n c → 0 < n → ∃ b, b ∈ B.z ∧ H b ≠ .dead ∧ μ b = some g) :
    RelV w (Not F' (muB μ B) H') (muB μ B) H' (.sl t l) v := by
  obtain ⟨a, c, rfl, hc, hr⟩ := hs
  simp only [RelV, RelD]
  refine ⟨a, c, rfl, hc, fun hpos => ?_⟩
  obtain ⟨g, o, rfl, hgl, hrow⟩ := hr hpos
  obtain ⟨b, hb, hl, hm⟩ := hg g o _ _ rfl hpos
  refine ⟨g, o, rfl, h.z hp hb hl hm, hgl, fun i hi => ?_⟩
  obtain ⟨es, e1, e2, e3⟩ := hrow i hi
  exact ⟨es, e1, e2, e3.keep (keepRefl w) fun _ _ => h.not⟩

theorem packSl_ok (hp : Hp F μ H nx w) {t : Ty} {x : AV} {B : Bd} {K : List t.den → Bd → Option α} {val : Value} (hx : RelV w (Not F μ H) μ H x val) (h : packSl H t x B K = some r) :
    ∃ p B', K p B' = some r ∧ Ext B B' ∧ ∀ (F' : Frm T) Bf H', Ext B' Bf → Fin F F' μ pin H bl Bf H' → RelV w (Not F' (muB μ Bf) H') (muB μ Bf) H' (.sl t p) val := by
  have zext : ∀ b, Ext B ⟨B.m, b :: B.z⟩ := fun b => ⟨fun _ _ h => h, fun _ h => List.mem_cons_of_mem _ h⟩
  cases x <;> try (simp only [packSl, items, reduceCtorEq] at h; done)
  case sl t' l =>
    simp only [packSl, items] at h
    split at h
    · rename_i ht
      subst ht
      refine ⟨l, B, h, Ext.refl B, fun F' Bf H' _ hf => ?_⟩
      simp only [RelV] at hx ⊢
      exact hx.keep (keepRefl w) fun _ _ => hf.not
    · cases h
  case c u =>
    simp only [RelV] at hx
    subst hx
    have h' : (items H t (.c val) fun l => K l B) = some r := h
    have hnil : val = .slice none 0 0 ∧ K [] B = some r := by
      simp only [items] at h'
      split at h' <;> first
        | (cases h'; done)
        | (rename_i heq; cases heq; done)
        | (rename_i heq; cases heq; exact ⟨rfl, h'⟩)
        | (rename_i heq; subst heq; exact ⟨rfl, h'⟩)
        | exact ⟨rfl, h'⟩
    obtain ⟨rfl, hK⟩ := hnil
    refine ⟨[], B, hK, Ext.refl B, fun F' Bf H' _ hf => ?_⟩
    simp only [RelV, RelD]
    exact ⟨none, 0, rfl, Nat.le_refl _, fun hh => absurd hh (by simp)⟩
  case wh b =>
    have h' : (items H t (.wh b) fun l => K l ⟨B.m, b :: B.z⟩) = some r := h
    obtain ⟨l, hK, hs⟩ := items_ok hp hx h'
    refine ⟨l, _, hK, zext b, fun F' Bf H' he hf => plain_of_rows hf hp hs fun g o n c hv _ => ⟨b, he.z b (by simp), ?_⟩⟩
    simp only [RelV] at hx
    obtain ⟨t', l', hb, ⟨g', c', hg, hv', _⟩ | ⟨_, _, hv'⟩⟩ := hx
    · rw [hv'] at hv
      simp only [Value.slice.injEq, Option.some.injEq, Addr.mk.injEq] at hv
      exact ⟨by simp [hb], by rw [← hv.1.1]; exact hg⟩
    · rw [hv'] at hv; simp at hv
  case win b lo n =>
    have h' : (items H t (.win b lo n) fun l => K l ⟨B.m, b :: B.z⟩) = some r := h
    obtain ⟨l, hK, hs⟩ := items_ok hp hx h'
    refine ⟨l, _, hK, zext b, fun F' Bf H' he hf => plain_of_rows hf hp hs fun g o n c hv _ => ⟨b, he.z b (by simp), ?_⟩⟩
    simp only [RelV] at hx
    obtain ⟨t', l', hb, _, ⟨g', c', o', hg, hv', _⟩ | ⟨_, _, hv'⟩⟩ := hx
    · rw [hv'] at hv
      simp only [Value.slice.injEq, Option.some.injEq, Addr.mk.injEq] at hv
      exact ⟨by simp [hb], by rw [← hv.1.1]; exact hg⟩
    · rw [hv'] at hv; simp at hv

theorem muB_of {B Bf : Bd} {j b : Nat} (he : Ext B Bf) (h : findB B.m j = some (some b)) : muB μ Bf j = μ b := by
  unfold muB
  rw [he.m j _ h]

theorem isNilSl_ok {u : Value} (h : isNilSl u = true) : u = .slice none 0 0 := by
  unfold isNilSl at h
  split at h
  · rfl
  · cases h

theorem isNilPtr_ok {u : Value} (h : isNilPtr u = true) : u = .pointer none := by
  unfold isNilPtr at h
  split at h
  · rfl
  · cases h

theorem packOwn_ok {x : AV} {j : Nat} {B : Bd} {K : Bd → Option α} {val : Value} (hx : RelV w (Not F μ H) μ H x val) (h : packOwn x j B K = some r) :
    ∃ B', K B' = some r ∧ Ext B B' ∧ ∀ (F' : Frm T) Bf H', Ext B' Bf → Fin F F' μ pin H bl Bf H' → refsOK bl (.own j) = true → RelV w (Not F' (muB μ Bf) H') (muB μ Bf) H' (.wh j) val := by
  have kind : ∀ {F' : Frm T} {Bf H'}, Fin F F' μ pin H bl Bf H' → refsOK bl (.own j) = true → ∃ t l, H' j = .data t l := by
    intro F' Bf H' hf hr
    simp only [refsOK] at hr
    cases hk : kindIn bl j with
    | none => simp [hk] at hr
    | some s =>
      have := hf.kin j s hk
      cases s <;> simp only [hk, Bool.false_eq_true] at hr
      obtain ⟨l, hl⟩ := this
      exact ⟨_, l, hl⟩
  cases x <;> simp only [packOwn, reduceCtorEq] at h
  case c u =>
    obtain ⟨h1, h2⟩ := cond_some h
    obtain ⟨B', hK, he, hb⟩ := bindB_ok h2
    refine ⟨B', hK, he, fun F' Bf H' he' hf hr => ?_⟩
    simp only [RelV] at hx ⊢
    obtain ⟨t, l, hl⟩ := kind hf hr
    have h3 := hf.src j (by simp [hl])
    unfold From at h3
    rw [he'.m j _ hb] at h3
    obtain ⟨_, ⟨t', h3⟩ | ⟨_, h3⟩ | ⟨_, _, _, _, h3⟩⟩ := h3
    rotate_left
    · rw [hl] at h3; cases h3
    · rw [hl] at h3; cases h3
    refine ⟨t', [], h3, .inr ⟨?_, rfl, by rw [hx, isNilSl_ok h1]⟩⟩
    unfold muB
    rw [he'.m j _ hb]
  case wh b =>
    obtain ⟨B', hK, he, hb⟩ := bindB_ok h
    refine ⟨B', hK, he, fun F' Bf H' he' hf hr => ?_⟩
    simp only [RelV] at hx ⊢
    obtain ⟨t, l, hl, hv⟩ := hx
    obtain ⟨t', l', hl'⟩ := kind hf hr
    have h3 := hf.src j (by simp [hl'])
    unfold From at h3
    rw [he'.m j _ hb] at h3
    have h4 := h3.2.1 t l hl
    exact ⟨t, l, h4, by rw [muB_of he' hb]; exact hv⟩

theorem packWin_ok {x : AV} {j : Nat} {B : Bd} {K : Nat × Nat → Bd → Option α} {val : Value} (hx : RelV w (Not F μ H) μ H x val) (h : packWin H x j B K = some r) :
    ∃ p B', K p B' = some r ∧ Ext B B' ∧ ∀ (F' : Frm T) Bf H', Ext B' Bf → Fin F F' μ pin H bl Bf H' → refsOK bl (.win j) = true → RelV w (Not F' (muB μ Bf) H') (muB μ Bf) H' (.win j p.1 p.2) val := by
  have kind : ∀ {F' : Frm T} {Bf H'}, Fin F F' μ pin H bl Bf H' → refsOK bl (.win j) = true → ∃ t l, H' j = .data t l := by
    intro F' Bf H' hf hr
    simp only [refsOK] at hr
    cases hk : kindIn bl j with
    | none => simp [hk] at hr
    | some s =>
      have := hf.kin j s hk
      cases s <;> simp only [hk, Bool.false_eq_true] at hr
      obtain ⟨l, hl⟩ := this
      exact ⟨_, l, hl⟩
  cases x <;> simp only [packWin, reduceCtorEq] at h
  case win b lo n =>
    obtain ⟨B', hK, he, hb⟩ := bindB_ok h
    refine ⟨(lo, n), B', hK, he, fun F' Bf H' he' hf hr => ?_⟩
    simp only [RelV] at hx ⊢
    obtain ⟨t, l, hl, hv⟩ := hx
    obtain ⟨t', l', hl'⟩ := kind hf hr
    have h3 := hf.src j (by simp [hl'])
    unfold From at h3
    rw [he'.m j _ hb] at h3
    have h4 := h3.2.1 t l hl
    exact ⟨t, l, h4, by rw [muB_of he' hb]; exact hv⟩
  case wh b =>
    simp only [RelV] at hx
    obtain ⟨t, l, hl, hv⟩ := hx
    simp only [hl] at h
    obtain ⟨B', hK, he, hb⟩ := bindB_ok h
    refine ⟨(0, l.length), B', hK, he, fun F' Bf H' he' hf hr => ?_⟩
    obtain ⟨t', l', hl'⟩ := kind hf hr
    have h3 := hf.src j (by simp [hl'])
    unfold From at h3
    rw [he'.m j _ hb] at h3
    have h4 := h3.2.1 t l hl
    simp only [RelV]
    refine ⟨t, l, h4, by omega, ?_⟩
    rw [muB_of he' hb]
    rcases hv with ⟨g, c, h1, h2, h5, h6⟩ | ⟨h1, h2, h5⟩
    · exact .inl ⟨g, c, 0, h1, by rw [h2]; rfl, h5, h6, .inl (by simp)⟩
    · exact .inr ⟨h1, h2, h5⟩

theorem packMp_ok {x : AV} {j o : Nat} {B : Bd} {K : Bool → Bd → Option α} {val : Value} (hx : RelV w (Not F μ H) μ H x val) (h : packMp x j o B K = some r) :
    ∃ p B', K p B' = some r ∧ Ext B B' ∧ ∀ (F' : Frm T) Bf H', Ext B' Bf → Fin F F' μ pin H bl Bf H' → refsOK bl (.mptr j o) = true → RelV w (Not F' (muB μ Bf) H') (muB μ Bf) H' (.mptr p j o) val := by
  have kind : ∀ {F' : Frm T} {Bf H'}, Fin F F' μ pin H bl Bf H' → refsOK bl (.mptr j o) = true → H' j ≠ .dead := by
    intro F' Bf H' hf hr
    simp only [refsOK, Option.isSome_iff_exists] at hr
    obtain ⟨s, hs⟩ := hr
    exact (hf.kin j s hs).live
  cases x <;> simp only [packMp, reduceCtorEq] at h
  case ptr b o' =>
    obtain ⟨h1, h2⟩ := cond_some h
    have := Nat.eq_of_beq_eq_true h1
    subst this
    obtain ⟨B', hK, he, hb⟩ := bindB_ok h2
    refine ⟨true, B', hK, he, fun F' Bf H' he' hf hr => ?_⟩
    simp only [RelV] at hx ⊢
    obtain ⟨_, g, hg, hv⟩ := hx
    exact ⟨kind hf hr, .inl ⟨trivial, g, by rw [muB_of he' hb]; exact hg, hv⟩⟩
  case mptr c b o' =>
    obtain ⟨h1, h2⟩ := cond_some h
    have := Nat.eq_of_beq_eq_true h1
    subst this
    obtain ⟨B', hK, he, hb⟩ := bindB_ok h2
    refine ⟨c, B', hK, he, fun F' Bf H' he' hf hr => ?_⟩
    simp only [RelV] at hx ⊢
    obtain ⟨_, hv⟩ := hx
    exact ⟨kind hf hr, by rw [muB_of he' hb]; exact hv⟩
  case c u =>
    obtain ⟨h1, h2⟩ := cond_some h
    obtain ⟨B', hK, he, hb⟩ := bindB_ok h2
    refine ⟨false, B', hK, he, fun F' Bf H' he' hf hr => ?_⟩
    simp only [RelV] at hx ⊢
    exact ⟨kind hf hr, .inr ⟨trivial, by rw [hx, isNilPtr_ok h1]⟩⟩

mutual
theorem packV_ok (hp : Hp F μ H nx w) : ∀ (v : VSh) (x : AV) (B : Bd) (K : v.den → Bd → Option α) (val : Value), RelV w (Not F μ H) μ H x val → packV H v x B K = some r →
    ∃ p B', K p B' = some r ∧ Ext B B' ∧ ∀ (F' : Frm T) Bf H', Ext B' Bf → Fin F F' μ pin H bl Bf H' → refsOK bl v = true → RelV w (Not F' (muB μ Bf) H') (muB μ Bf) H' (unV v p) val
  | .i k, x, B, K, val, hx, h => by
    cases x <;> simp only [packV, reduceCtorEq] at h
    obtain ⟨h1, h2⟩ := cond_some h
    have := of_decide_eq_true h1
    subst this
    exact ⟨_, B, h2, Ext.refl B, fun _ _ _ _ _ _ => hx⟩
  | .u, x, B, K, val, hx, h => by
    cases x <;> simp only [packV, reduceCtorEq] at h
    exact ⟨_, B, h, Ext.refl B, fun _ _ _ _ _ _ => hx⟩
  | .b, x, B, K, val, hx, h => by
    cases x <;> simp only [packV, reduceCtorEq] at h
    · exact ⟨_, B, h, Ext.refl B, fun _ _ _ _ _ _ => hx⟩
    · exact ⟨_, B, h, Ext.refl B, fun _ _ _ _ _ _ => hx⟩
  | .s, x, B, K, val, hx, h => by
    cases x <;> simp only [packV, reduceCtorEq] at h
    exact ⟨_, B, h, Ext.refl B, fun _ _ _ _ _ _ => hx⟩
  | .sl t, x, B, K, val, hx, h => by
    simp only [packV] at h
    obtain ⟨p, B', hK, he, hh⟩ := packSl_ok (pin := pin) (bl := bl) hp hx h
    exact ⟨p, B', hK, he, fun F' Bf H' h1 h2 _ => hh F' Bf H' h1 h2⟩
  | .ptr j o, x, B, K, val, hx, h => by
    cases x <;> simp only [packV, reduceCtorEq] at h
    obtain ⟨h1, h2⟩ := cond_some h
    have := Nat.eq_of_beq_eq_true h1
    subst this
    obtain ⟨B', hK, he, hb⟩ := bindB_ok h2
    refine ⟨(), B', hK, he, fun F' Bf H' he' hf hr => ?_⟩
    simp only [RelV, unV] at hx ⊢
    obtain ⟨hl, g, hg, hv⟩ := hx
    simp only [refsOK, Option.isSome_iff_exists] at hr
    obtain ⟨s, hs⟩ := hr
    exact ⟨(hf.kin j s hs).live, g, by rw [muB_of he' hb]; exact hg, hv⟩
  | .mp j, x, B, K, val, hx, h => by
    cases x <;> simp only [packV, reduceCtorEq] at h
    obtain ⟨B', hK, he, hb⟩ := bindB_ok h
    refine ⟨(), B', hK, he, fun F' Bf H' he' hf hr => ?_⟩
    simp only [RelV, unV] at hx ⊢
    obtain ⟨hl, g, hg, hv⟩ := hx
    simp only [refsOK, Option.isSome_iff_exists] at hr
    obtain ⟨s, hs⟩ := hr
    exact ⟨(hf.kin j s hs).live, g, by rw [muB_of he' hb]; exact hg, hv⟩
  | .mptr j o, x, B, K, val, hx, h => by
    simp only [packV] at h
    obtain ⟨p, B', hK, he, hh⟩ := packMp_ok (pin := pin) (bl := bl) hx h
    exact ⟨p, B', hK, he, hh⟩
  | .own j, x, B, K, val, hx, h => by
    simp only [packV] at h
    obtain ⟨B', hK, he, hh⟩ := packOwn_ok (pin := pin) (bl := bl) hx h
    exact ⟨(), B', hK, he, hh⟩
  | .win j, x, B, K, val, hx, h => by
    simp only [packV] at h
    obtain ⟨p, B', hK, he, hh⟩ := packWin_ok (pin := pin) (bl := bl) hx h
    exact ⟨p, B', hK, he, hh⟩
  | .fn f cs, x, B, K, val, hx, h => by
    cases x <;> simp only [packV, reduceCtorEq] at h
    obtain ⟨h1, h2⟩ := cond_some h
    have := Nat.eq_of_beq_eq_true h1
    subst this
    simp only [RelV] at hx
    obtain ⟨vs, hv, hvs⟩ := hx
    obtain ⟨p, B', hK, he, hh⟩ := packL_ok hp cs _ B K vs hvs h2
    refine ⟨p, B', hK, he, fun F' Bf H' he' hf hr => ?_⟩
    simp only [unV, RelV]
    exact ⟨vs, hv, hh F' Bf H' he' hf hr⟩
  | .agg cs, x, B, K, val, hx, h => by
    cases x <;> simp only [packV, reduceCtorEq] at h
    simp only [RelV] at hx
    obtain ⟨vs, hv, hvs⟩ := hx
    obtain ⟨p, B', hK, he, hh⟩ := packL_ok hp cs _ B K vs hvs h
    refine ⟨p, B', hK, he, fun F' Bf H' he' hf hr => ?_⟩
    simp only [unV, RelV]
    exact ⟨vs, hv, hh F' Bf H' he' hf hr⟩
  | .tup cs, x, B, K, val, hx, h => by
    cases x <;> simp only [packV, reduceCtorEq] at h
    simp only [RelV] at hx
    obtain ⟨vs, hv, hvs⟩ := hx
    obtain ⟨p, B', hK, he, hh⟩ := packL_ok hp cs _ B K vs hvs h
    refine ⟨p, B', hK, he, fun F' Bf H' he' hf hr => ?_⟩
    simp only [unV, RelV]
    exact ⟨vs, hv, hh F' Bf H' he' hf hr⟩
  | .ifc t v, x, B, K, val, hx, h => by
    cases x <;> simp only [packV, reduceCtorEq] at h
    obtain ⟨h1, h2⟩ := cond_some h
    have := Nat.eq_of_beq_eq_true h1
    subst this
    simp only [RelV] at hx
    obtain ⟨u, hv, hu⟩ := hx
    obtain ⟨p, B', hK, he, hh⟩ := packV_ok hp v _ B K u hu h2
    refine ⟨p, B', hK, he, fun F' Bf H' he' hf hr => ?_⟩
    simp only [unV, RelV]
    exact ⟨u, hv, hh F' Bf H' he' hf hr⟩
  | .may _ _, x, B, K, val, hx, h => by cases x <;> simp [packV] at h
  | .nil, x, B, K, val, hx, h => by cases x <;> simp [packV] at h
  | .cons _ _, x, B, K, val, hx, h => by cases x <;> simp [packV] at h
  | .nilp, x, B, K, val, hx, h => by
    cases x <;> simp only [packV, reduceCtorEq] at h
    obtain ⟨h1, h2⟩ := cond_some h
    simp only [RelV] at hx
    exact ⟨(), B, h2, Ext.refl B, fun _ _ _ _ _ _ => by simp only [unV, RelV]; rw [hx, isNilPtr_ok h1]⟩
  | .bad, x, B, K, val, hx, h => by
    refine ⟨(), B, ?_, Ext.refl B, fun _ _ _ _ _ _ => by simp [unV, RelV]⟩
    cases x <;> exact h
  | .kb y, x, B, K, val, hx, h => by
    cases x <;> simp only [packV, reduceCtorEq] at h
    obtain ⟨h1, h2⟩ := cond_some h
    have := eq_of_beq h1
    subst this
    exact ⟨(), B, h2, Ext.refl B, fun _ _ _ _ _ _ => hx⟩
  | .ki k n, x, B, K, val, hx, h => by
    cases x <;> simp only [packV, reduceCtorEq] at h
    obtain ⟨h1, h2⟩ := cond_some h
    simp only [Bool.and_eq_true, decide_eq_true_eq] at h1
    obtain ⟨rfl, rfl⟩ := h1
    exact ⟨(), B, h2, Ext.refl B, fun _ _ _ _ _ _ => hx⟩
  | .ks l, x, B, K, val, hx, h => by
    cases x <;> simp only [packV, reduceCtorEq] at h
    obtain ⟨h1, h2⟩ := cond_some h
    have := of_decide_eq_true h1
    subst this
    exact ⟨(), B, h2, Ext.refl B, fun _ _ _ _ _ _ => hx⟩
theorem packL_ok (hp : Hp F μ H nx w) : ∀ (v : VSh) (x : List AV) (B : Bd) (K : v.den → Bd → Option α) (vals : List Value), RelVs w (Not F μ H) μ H x vals → packL H v x B K = some r →
    ∃ p B', K p B' = some r ∧ Ext B B' ∧ ∀ (F' : Frm T) Bf H', Ext B' Bf → Fin F F' μ pin H bl Bf H' → refsOK bl v = true → RelVs w (Not F' (muB μ Bf) H') (muB μ Bf) H' (unL v p) vals
  | .nil, [], B, K, vals, hx, h => by
    simp only [packL] at h
    exact ⟨(), B, h, Ext.refl B, fun _ _ _ _ _ _ => hx⟩
  | .cons v v2, x :: xs, B, K, vals, hx, h => by
    simp only [packL] at h
    simp only [RelVs] at hx
    obtain ⟨val, vr, rfl, h1, h2⟩ := hx
    obtain ⟨p, B1, hK1, he1, hh1⟩ := packV_ok hp v x B _ val h1 h
    obtain ⟨q, B2, hK2, he2, hh2⟩ := packL_ok hp v2 xs B1 _ vr h2 hK1
    refine ⟨(p, q), B2, hK2, he1.trans he2, fun F' Bf H' he hf hr => ?_⟩
    simp only [refsOK, Bool.and_eq_true] at hr
    simp only [unL, RelVs]
    exact ⟨val, vr, rfl, hh1 F' Bf H' (he2.trans he) hf hr.1, hh2 F' Bf H' he hf hr.2⟩
  | .nil, _ :: _, B, K, vals, hx, h => by simp [packL] at h
  | .cons _ _, [], B, K, vals, hx, h => by simp [packL] at h
  | .i _, x, B, K, vals, hx, h => by cases x <;> simp [packL] at h
  | .u, x, B, K, vals, hx, h => by cases x <;> simp [packL] at h
  | .b, x, B, K, vals, hx, h => by cases x <;> simp [packL] at h
  | .s, x, B, K, vals, hx, h => by cases x <;> simp [packL] at h
  | .sl _, x, B, K, vals, hx, h => by cases x <;> simp [packL] at h
  | .ptr _ _, x, B, K, vals, hx, h => by cases x <;> simp [packL] at h
  | .ifc _ _, x, B, K, vals, hx, h => by cases x <;> simp [packL] at h
  | .may _ _, x, B, K, vals, hx, h => by cases x <;> simp [packL] at h
  | .own _, x, B, K, vals, hx, h => by cases x <;> simp [packL] at h
  | .win _, x, B, K, vals, hx, h => by cases x <;> simp [packL] at h
  | .mp _, x, B, K, vals, hx, h => by cases x <;> simp [packL] at h
  | .mptr _ _, x, B, K, vals, hx, h => by cases x <;> simp [packL] at h
  | .fn _ _, x, B, K, vals, hx, h => by cases x <;> simp [packL] at h
  | .agg _, x, B, K, vals, hx, h => by cases x <;> simp [packL] at h
  | .tup _, x, B, K, vals, hx, h => by cases x <;> simp [packL] at h
  | .nilp, x, B, K, vals, hx, h => by cases x <;> simp [packL] at h
  | .bad, x, B, K, vals, hx, h => by cases x <;> simp [packL] at h
  | .kb _, x, B, K, vals, hx, h => by cases x <;> simp [packL] at h
  | .ki _ _, x, B, K, vals, hx, h => by cases x <;> simp [packL] at h
  | .ks _, x, B, K, vals, hx, h => by cases x <;> simp [packL] at h
end

end
end Go.Ev
