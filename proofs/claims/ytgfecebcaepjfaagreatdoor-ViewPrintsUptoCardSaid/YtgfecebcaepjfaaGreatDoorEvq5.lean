/- States put into shapes. -/
import Derived.Test.YtgfecebcaepjfaaGreatDoorEvN
import Derived.Scope
namespace Go.Ev
open Go

/-- More is bound than was. -/
structure Ext (B B' : Bd) : Prop where
  m : ∀ j b, findB B.m j = some b → findB B'.m j = some b
  z : ∀ b, b ∈ B.z → b ∈ B'.z

theorem Ext.refl (B : Bd) : Ext B B := ⟨fun _ _ h => h, fun _ h => h⟩
theorem Ext.trans {A B C : Bd} (h : Ext A B) (h' : Ext B C) : Ext A C := ⟨fun j b hh => h'.m j b (h.m j b hh), fun b hh => h'.z b (h.z b hh)⟩

theorem eqON_eq : ∀ {x y : Option Nat}, eqON x y = true → x = y
  | none, none, _ => rfl
  | some _, some _, h => by rw [Nat.eq_of_beq_eq_true h]
  | none, some _, h => by cases h
  | some _, none, h => by cases h

theorem bindB_ok {α : Type} {r : α} {B : Bd} {j : Nat} {b : Option Nat} {K : Bd → Option α} (h : bindB B j b K = some r) : ∃ B', K B' = some r ∧ Ext B B' ∧ findB B'.m j = some b := by
  unfold bindB at h
  cases hf : findB B.m j with
  | none =>
    simp only [hf] at h
    refine ⟨_, h, ⟨fun k c hk => ?_, fun _ h => h⟩, by simp [findB]⟩
    have hne : Nat.beq j k = false := Bool.eq_false_iff.2 fun e => by rw [Nat.eq_of_beq_eq_true e, hk] at hf; cases hf
    simp [findB, hne, hk]
  | some b' =>
    simp only [hf] at h
    obtain ⟨h1, h2⟩ := cond_some h
    rw [eqON_eq h1] at hf
    exact ⟨B, h2, Ext.refl B, hf⟩

def Bd.bs (B : Bd) : List Nat := B.m.filterMap (·.2)

theorem findB_mem : ∀ {m : List (Nat × Option Nat)} {j b : Nat}, findB m j = some (some b) → b ∈ m.filterMap (·.2)
  | [], _, _, h => by simp [findB] at h
  | (k, o) :: m, j, b, h => by
    simp only [findB] at h
    cases hk : Nat.beq k j with
    | true => simp only [hk, cond_true, Option.some.injEq] at h; subst h; simp
    | false =>
      simp only [hk, cond_false] at h
      have := findB_mem h
      simp only [List.mem_filterMap] at this ⊢
      obtain ⟨q, hq, he⟩ := this
      exact ⟨q, List.mem_cons_of_mem _ hq, he⟩

theorem nodupN_ok : ∀ {l : List Nat}, nodupN l = true → l.Nodup
  | [], _ => List.nodup_nil
  | x :: l, h => by
    simp only [nodupN, Bool.and_eq_true, Bool.not_eq_true'] at h
    refine List.nodup_cons.2 ⟨fun hm => ?_, nodupN_ok h.2⟩
    have : (l.any fun y => Nat.beq x y) = true := List.any_eq_true.2 ⟨x, hm, Nat.beq_refl x⟩
    rw [this] at h
    exact absurd h.1 (by simp)

theorem nodup_tail {k : Nat} {o : Option Nat} {m : List (Nat × Option Nat)} (hn : (((k, o) :: m).filterMap (·.2)).Nodup) : (m.filterMap (·.2)).Nodup ∧ ∀ b, o = some b → b ∉ m.filterMap (·.2) := by
  cases o with
  | none => exact ⟨by simpa using hn, fun b h => by cases h⟩
  | some c =>
    have h := List.nodup_cons.1 (show (c :: m.filterMap (·.2)).Nodup from hn)
    exact ⟨h.2, fun b hb => by cases hb; exact h.1⟩

theorem findB_inj : ∀ {m : List (Nat × Option Nat)} {j j' b : Nat}, (m.filterMap (·.2)).Nodup → findB m j = some (some b) → findB m j' = some (some b) → j = j'
  | [], _, _, _, _, h, _ => by simp [findB] at h
  | (k, o) :: m, j, j', b, hn, h, h' => by
    simp only [findB] at h h'
    obtain ⟨hn', hn2⟩ := nodup_tail hn
    cases hk : Nat.beq k j with
    | true =>
      simp only [hk, cond_true, Option.some.injEq] at h
      subst h
      cases hk' : Nat.beq k j' with
      | true => rw [← Nat.eq_of_beq_eq_true hk, ← Nat.eq_of_beq_eq_true hk']
      | false =>
        simp only [hk', cond_false] at h'
        exact absurd (findB_mem h') (hn2 b rfl)
    | false =>
      simp only [hk, cond_false] at h
      cases hk' : Nat.beq k j' with
      | true =>
        simp only [hk', cond_true, Option.some.injEq] at h'
        subst h'
        exact absurd (findB_mem h) (hn2 b rfl)
      | false =>
        simp only [hk', cond_false] at h'
        exact findB_inj hn' h h'

theorem Bd.ok_inj {B : Bd} (h : B.ok = true) {j j' b : Nat} (h1 : findB B.m j = some (some b)) (h2 : findB B.m j' = some (some b)) : j = j' := by
  simp only [Bd.ok, Bool.and_eq_true] at h
  exact findB_inj (nodupN_ok h.1) h1 h2

theorem Bd.ok_z {B : Bd} (h : B.ok = true) {j b : Nat} (h1 : findB B.m j = some (some b)) : b ∉ B.z := fun hz => by
  simp only [Bd.ok, Bool.and_eq_true] at h
  have := List.all_eq_true.1 h.2 b (findB_mem h1)
  have h2 : (B.z.any fun y => Nat.beq b y) = true := List.any_eq_true.2 ⟨b, hz, Nat.beq_refl b⟩
  rw [h2] at this
  cases this

/-- Which block of the world a number stands for, behind the turn. -/
def muB (μ : Nat → Option Nat) (B : Bd) (j : Nat) : Option Nat :=
  match findB B.m j with
  | some (some b) => μ b
  | _ => none

/-- Where a block of the new heap comes from. -/
def From (pin : Nat) (H : Nat → Blk) (B : Bd) (j : Nat) (blk : Blk) : Prop :=
  match findB B.m j with
  | some (some b) => H b ≠ .dead ∧ (∀ t l, H b = .data t l → blk = .data t l) ∧ (j < pin → b = j) ∧ (blk.tag ≠ 0 → (H b).tag = blk.tag)
  | some none => pin ≤ j ∧ ((∃ t, blk = .data t []) ∨ (∃ cs, blk = .vars cs) ∨ ∃ kt vt ag l, blk = .mapd kt vt ag l)
  | none => False

theorem From.ext {pin : Nat} {H : Nat → Blk} {B B' : Bd} {j : Nat} {blk : Blk} (he : Ext B B') (h : From pin H B j blk) : From pin H B' j blk := by
  unfold From at *
  cases hf : findB B.m j with
  | none => simp [hf] at h
  | some b => rw [he.m j b hf]; simpa [hf] using h

/-- A block of the kind that a shape tells. -/
def Kin : BSh → Blk → Prop
  | .vars _, b => ∃ cs, b = .vars cs
  | .data t, b => ∃ l, b = .data t l
  | .iter, b => ∃ s p, b = .iter s p
  | .mapd kt vt ag, b => ∃ l, b = .mapd kt vt ag l

theorem Kin.live {s : BSh} {b : Blk} (h : Kin s b) : b ≠ .dead := by
  cases s <;> simp only [Kin] at h
  · obtain ⟨_, rfl⟩ := h; simp
  · obtain ⟨_, rfl⟩ := h; simp
  · obtain ⟨_, _, rfl⟩ := h; simp
  · obtain ⟨_, rfl⟩ := h; simp

theorem Kin.tag {s : BSh} {b : Blk} (h : Kin s b) : b.tag = s.tag := by
  cases s <;> simp only [Kin] at h
  · obtain ⟨_, rfl⟩ := h; rfl
  · obtain ⟨_, rfl⟩ := h; rfl
  · obtain ⟨_, _, rfl⟩ := h; rfl
  · obtain ⟨_, rfl⟩ := h; rfl

theorem unB_kin : ∀ (s : BSh) (p : s.den), Kin s (unB s p)
  | .vars _, _ => ⟨_, rfl⟩
  | .data _, _ => ⟨_, rfl⟩
  | .iter, _ => ⟨_, _, rfl⟩
  | .mapd _ _ _, _ => ⟨_, rfl⟩

section
variable {T : Tb} {F : Frm T} {μ : Nat → Option Nat} {H : Nat → Blk} {nx : Nat} {w : World} {α : Type} {r : α} {pin : Nat} {bl : List (Nat × BSh)}

/-- The new heap, once all is bound. -/
structure Fin {T : Tb} (F F' : Frm T) (μ : Nat → Option Nat) (pin : Nat) (H : Nat → Blk) (bl : List (Nat × BSh)) (B : Bd) (H' : Nat → Blk) : Prop where
  ok : B.ok = true
  src : ∀ j, H' j ≠ .dead → From pin H B j (H' j)
  kin : ∀ j s, kindIn bl j = some s → Kin s (H' j)
  sub : ∀ g, F' g → Not F μ H g
  zsep : ∀ b g, b ∈ B.z → H b ≠ .dead → μ b = some g → ¬ F' g

variable {F' : Frm T} {B : Bd} {H' : Nat → Blk}

theorem Fin.trk (h : Fin F F' μ pin H bl B H') {g : Nat} (ht : Trk (muB μ B) H' g) : Trk μ H g := by
  obtain ⟨j, h1, h2⟩ := ht
  have h3 := h.src j h1
  unfold From at h3
  unfold muB at h2
  cases hf : findB B.m j with
  | none => simp [hf] at h2
  | some o =>
    cases o with
    | none => simp [hf] at h2
    | some b => simp only [hf] at h2 h3; exact ⟨b, h3.1, h2⟩

theorem Fin.not (h : Fin F F' μ pin H bl B H') {g : Nat} (hn : Not F' (muB μ B) H' g) : Not F μ H g := hn.elim (h.sub g) fun ht => .inr (h.trk ht)

theorem Fin.z (h : Fin F F' μ pin H bl B H') (hp : Hp F μ H nx w) {b g : Nat} (hb : b ∈ B.z) (hl : H b ≠ .dead) (hg : μ b = some g) : ¬ Not F' (muB μ B) H' g := by
  rintro (hF | ⟨j, h1, h2⟩)
  · exact h.zsep b g hb hl hg hF
  · have h3 := h.src j h1
    unfold From at h3
    unfold muB at h2
    cases hf : findB B.m j with
    | none => simp [hf] at h2
    | some o =>
      cases o with
      | none => simp [hf] at h2
      | some b' =>
        simp only [hf] at h2 h3
        have := hp.inj b b' g hl h3.1 hg h2
        subst this
        exact Bd.ok_z h.ok hf hb

theorem keepRefl (w : World) {N : Nat → Prop} : Keep N w w := Keep.refl w

/-- Data in a slice of its own block is plain data, once the block is given up. -/
theorem plain_of_rows (h : Fin F F' μ pin H bl B H') (hp : Hp F μ H nx w) {t : Ty} {l : List t.den} {v : Value} (hs : SlRow w (Not F μ H) t l v) (hg : ∀ g o n c, v = .slice (some ⟨g, o, none⟩) n c → 0 < n → ∃ b, b ∈ B.z ∧ H b ≠ .dead ∧ μ b = some g) :
    RelV w (Not F' (muB μ B) H') (muB μ B) H' (.sl t l) v := by
  obtain ⟨a, c, rfl, hc, hr⟩ := hs
  simp only [RelV, RelD]
  refine ⟨a, c, rfl, hc, fun hpos => ?_⟩
  obtain ⟨g, o, rfl, hgl, hrow⟩ := hr hpos
  obtain ⟨b, hb, hl, hm⟩ := hg g o _ _ rfl hpos
  refine ⟨g, o, rfl, h.z hp hb hl hm, hgl, fun i hi => ?_⟩
  obtain ⟨es, e1, e2, e3⟩ := hrow i hi
  exact ⟨es, e1, e2, e3.keep (keepRefl w) fun _ _ => h.not⟩

theorem packSl_ok (hp : Hp F μ H nx w) {t : Ty} {x : AV} {B : Bd} {K : List t.den → Bd → Option α} {val : Value} (hx : RelV w (Not F μ H) μ H x val) (h : packSl H t x B K = some r) :
    ∃ p B', K p B' = some r ∧ Ext B B' ∧ ∀ (F' : Frm T) Bf H', Ext B' Bf → Fin F F' μ pin H bl Bf H' → RelV w (Not F' (muB μ Bf) H') (muB μ Bf) H' (.sl t p) val := by
  have zext : ∀ b, Ext B ⟨B.m, b :: B.z⟩ := fun b => ⟨fun _ _ h => h, fun _ h => List.mem_cons_of_mem _ h⟩
  cases x <;> try (simp only [packSl, items, reduceCtorEq] at h; done)
  case sl t' l =>
    simp only [packSl, items] at h
    split at h
    · rename_i ht
      subst ht
      refine ⟨l, B, h, Ext.refl B, fun F' Bf H' _ hf => ?_⟩
      simp only [RelV] at hx ⊢
      exact hx.keep (keepRefl w) fun _ _ => hf.not
    · cases h
  case c u =>
    simp only [RelV] at hx
    subst hx
    have h' : (items H t (.c val) fun l => K l B) = some r := h
    have hnil : val = .slice none 0 0 ∧ K [] B = some r := by
      simp only [items] at h'
      split at h' <;> first
        | (cases h'; done)
        | (rename_i heq; cases heq; done)
        | (rename_i heq; cases heq; exact ⟨rfl, h'⟩)
        | (rename_i heq; subst heq; exact ⟨rfl, h'⟩)
        | exact ⟨rfl, h'⟩
    obtain ⟨rfl, hK⟩ := hnil
    refine ⟨[], B, hK, Ext.refl B, fun F' Bf H' _ hf => ?_⟩
    simp only [RelV, RelD]
    exact ⟨none, 0, rfl, Nat.le_refl _, fun hh => absurd hh (by simp)⟩
  case wh b =>
    have h' : (items H t (.wh b) fun l => K l ⟨B.m, b :: B.z⟩) = some r := h
    obtain ⟨l, hK, hs⟩ := items_ok hp hx h'
    refine ⟨l, _, hK, zext b, fun F' Bf H' he hf => plain_of_rows hf hp hs fun g o n c hv _ => ⟨b, he.z b (by simp), ?_⟩⟩
    simp only [RelV] at hx
    obtain ⟨t', l', hb, ⟨g', c', hg, hv', _⟩ | ⟨_, _, hv'⟩⟩ := hx
    · rw [hv'] at hv
      simp only [Value.slice.injEq, Option.some.injEq, Addr.mk.injEq] at hv
      exact ⟨by simp [hb], by rw [← hv.1.1]; exact hg⟩
    · rw [hv'] at hv; simp at hv
  case win b lo n =>
    have h' : (items H t (.win b lo n) fun l => K l ⟨B.m, b :: B.z⟩) = some r := h
    obtain ⟨l, hK, hs⟩ := items_ok hp hx h'
    refine ⟨l, _, hK, zext b, fun F' Bf H' he hf => plain_of_rows hf hp hs fun g o n c hv _ => ⟨b, he.z b (by simp), ?_⟩⟩
    simp only [RelV] at hx
    obtain ⟨t', l', hb, _, ⟨g', c', o', hg, hv', _⟩ | ⟨_, _, hv'⟩⟩ := hx
    · rw [hv'] at hv
      simp only [Value.slice.injEq, Option.some.injEq, Addr.mk.injEq] at hv
      exact ⟨by simp [hb], by rw [← hv.1.1]; exact hg⟩
    · rw [hv'] at hv; simp at hv

theorem muB_of {B Bf : Bd} {j b : Nat} (he : Ext B Bf) (h : findB B.m j = some (some b)) : muB μ Bf j = μ b := by
  unfold muB
  rw [he.m j _ h]

theorem isNilSl_ok {u : Value} (h : isNilSl u = true) : u = .slice none 0 0 := by
  unfold isNilSl at h
  split at h
  · rfl
  · cases h

theorem isNilPtr_ok {u : Value} (h : isNilPtr u = true) : u = .pointer none := by
  unfold isNilPtr at h
  split at h
  · rfl
  · cases h

theorem packOwn_ok {x : AV} {j : Nat} {B : Bd} {K : Bd → Option α} {val : Value} (hx : RelV w (Not F μ H) μ H x val) (h : packOwn x j B K = some r) :
    ∃ B', K B' = some r ∧ Ext B B' ∧ ∀ (F' : Frm T) Bf H', Ext B' Bf → Fin F F' μ pin H bl Bf H' → refsOK bl (.own j) = true → RelV w (Not F' (muB μ Bf) H') (muB μ Bf) H' (.wh j) val := by
  have kind : ∀ {F' : Frm T} {Bf H'}, Fin F F' μ pin H bl Bf H' → refsOK bl (.own j) = true → ∃ t l, H' j = .data t l := by
    intro F' Bf H' hf hr
    simp only [refsOK] at hr
    cases hk : kindIn bl j with
    | none => simp [hk] at hr
    | some s =>
      have := hf.kin j s hk
      cases s <;> simp only [hk, Bool.false_eq_true] at hr
      obtain ⟨l, hl⟩ := this
      exact ⟨_, l, hl⟩
  cases x <;> simp only [packOwn, reduceCtorEq] at h
  case c u =>
    obtain ⟨h1, h2⟩ := cond_some h
    obtain ⟨B', hK, he, hb⟩ := bindB_ok h2
    refine ⟨B', hK, he, fun F' Bf H' he' hf hr => ?_⟩
    simp only [RelV] at hx ⊢
    obtain ⟨t, l, hl⟩ := kind hf hr
    have h3 := hf.src j (by simp [hl])
    unfold From at h3
    rw [he'.m j _ hb] at h3
    obtain ⟨_, ⟨t', h3⟩ | ⟨_, h3⟩ | ⟨_, _, _, _, h3⟩⟩ := h3
    rotate_left
    · rw [hl] at h3; cases h3
    · rw [hl] at h3; cases h3
    refine ⟨t', [], h3, .inr ⟨?_, rfl, by rw [hx, isNilSl_ok h1]⟩⟩
    unfold muB
    rw [he'.m j _ hb]
  case wh b =>
    obtain ⟨B', hK, he, hb⟩ := bindB_ok h
    refine ⟨B', hK, he, fun F' Bf H' he' hf hr => ?_⟩
    simp only [RelV] at hx ⊢
    obtain ⟨t, l, hl, hv⟩ := hx
    obtain ⟨t', l', hl'⟩ := kind hf hr
    have h3 := hf.src j (by simp [hl'])
    unfold From at h3
    rw [he'.m j _ hb] at h3
    have h4 := h3.2.1 t l hl
    exact ⟨t, l, h4, by rw [muB_of he' hb]; exact hv⟩

theorem packWin_ok {x : AV} {j : Nat} {B : Bd} {K : Nat × Nat → Bd → Option α} {val : Value} (hx : RelV w (Not F μ H) μ H x val) (h : packWin H x j B K = some r) :
    ∃ p B', K p B' = some r ∧ Ext B B' ∧ ∀ (F' : Frm T) Bf H', Ext B' Bf → Fin F F' μ pin H bl Bf H' → refsOK bl (.win j) = true → RelV w (Not F' (muB μ Bf) H') (muB μ Bf) H' (.win j p.1 p.2) val := by
  have kind : ∀ {F' : Frm T} {Bf H'}, Fin F F' μ pin H bl Bf H' → refsOK bl (.win j) = true → ∃ t l, H' j = .data t l := by
    intro F' Bf H' hf hr
    simp only [refsOK] at hr
    cases hk : kindIn bl j with
    | none => simp [hk] at hr
    | some s =>
      have := hf.kin j s hk
      cases s <;> simp only [hk, Bool.false_eq_true] at hr
      obtain ⟨l, hl⟩ := this
      exact ⟨_, l, hl⟩
  cases x <;> simp only [packWin, reduceCtorEq] at h
  case win b lo n =>
    obtain ⟨B', hK, he, hb⟩ := bindB_ok h
    refine ⟨(lo, n), B', hK, he, fun F' Bf H' he' hf hr => ?_⟩
    simp only [RelV] at hx ⊢
    obtain ⟨t, l, hl, hv⟩ := hx
    obtain ⟨t', l', hl'⟩ := kind hf hr
    have h3 := hf.src j (by simp [hl'])
    unfold From at h3
    rw [he'.m j _ hb] at h3
    have h4 := h3.2.1 t l hl
    exact ⟨t, l, h4, by rw [muB_of he' hb]; exact hv⟩
  case wh b =>
    simp only [RelV] at hx
    obtain ⟨t, l, hl, hv⟩ := hx
    simp only [hl] at h
    obtain ⟨B', hK, he, hb⟩ := bindB_ok h
    refine ⟨(0, l.length), B', hK, he, fun F' Bf H' he' hf hr => ?_⟩
    obtain ⟨t', l', hl'⟩ := kind hf hr
    have h3 := hf.src j (by simp [hl'])
    unfold From at h3
    rw [he'.m j _ hb] at h3
    have h4 := h3.2.1 t l hl
    simp only [RelV]
    refine ⟨t, l, h4, by omega, ?_⟩
    rw [muB_of he' hb]
    rcases hv with ⟨g, c, h1, h2, h5, h6⟩ | ⟨h1, h2, h5⟩
    · exact .inl ⟨g, c, 0, h1, by rw [h2]; rfl, h5, h6, .inl (by simp)⟩
    · exact .inr ⟨h1, h2, h5⟩

theorem packMp_ok {x : AV} {j o : Nat} {B : Bd} {K : Bool → Bd → Option α} {val : Value} (hx : RelV w (Not F μ H) μ H x val) (h : packMp x j o B K = some r) :
    ∃ p B', K p B' = some r ∧ Ext B B' ∧ ∀ (F' : Frm T) Bf H', Ext B' Bf → Fin F F' μ pin H bl Bf H' → refsOK bl (.mptr j o) = true → RelV w (Not F' (muB μ Bf) H') (muB μ Bf) H' (.mptr p j o) val := by
  have kind : ∀ {F' : Frm T} {Bf H'}, Fin F F' μ pin H bl Bf H' → refsOK bl (.mptr j o) = true → H' j ≠ .dead := by
    intro F' Bf H' hf hr
    simp only [refsOK, Option.isSome_iff_exists] at hr
    obtain ⟨s, hs⟩ := hr
    exact (hf.kin j s hs).live
  cases x <;> simp only [packMp, reduceCtorEq] at h
  case ptr b o' =>
    obtain ⟨h1, h2⟩ := cond_some h
    have := Nat.eq_of_beq_eq_true h1
    subst this
    obtain ⟨B', hK, he, hb⟩ := bindB_ok h2
    refine ⟨true, B', hK, he, fun F' Bf H' he' hf hr => ?_⟩
    simp only [RelV] at hx ⊢
    obtain ⟨_, g, hg, hv⟩ := hx
    exact ⟨kind hf hr, .inl ⟨trivial, g, by rw [muB_of he' hb]; exact hg, hv⟩⟩
  case mptr c b o' =>
    obtain ⟨h1, h2⟩ := cond_some h
    have := Nat.eq_of_beq_eq_true h1
    subst this
    obtain ⟨B', hK, he, hb⟩ := bindB_ok h2
    refine ⟨c, B', hK, he, fun F' Bf H' he' hf hr => ?_⟩
    simp only [RelV] at hx ⊢
    obtain ⟨_, hv⟩ := hx
    exact ⟨kind hf hr, by rw [muB_of he' hb]; exact hv⟩
  case c u =>
    obtain ⟨h1, h2⟩ := cond_some h
    obtain ⟨B', hK, he, hb⟩ := bindB_ok h2
    refine ⟨false, B', hK, he, fun F' Bf H' he' hf hr => ?_⟩
    simp only [RelV] at hx ⊢
    exact ⟨kind hf hr, .inr ⟨trivial, by rw [hx, isNilPtr_ok h1]⟩⟩

mutual
theorem packV_ok (hp : Hp F μ H nx w) : ∀ (v : VSh) (x : AV) (B : Bd) (K : v.den → Bd → Option α) (val : Value), RelV w (Not F μ H) μ H x val → packV H v x B K = some r →
    ∃ p B', K p B' = some r ∧ Ext B B' ∧ ∀ (F' : Frm T) Bf H', Ext B' Bf → Fin F F' μ pin H bl Bf H' → refsOK bl v = true → RelV w (Not F' (muB μ Bf) H') (muB μ Bf) H' (unV v p) val
  | .i k, x, B, K, val, hx, h => by
    cases x <;> simp only [packV, reduceCtorEq] at h
    obtain ⟨h1, h2⟩ := cond_some h
    have := of_decide_eq_true h1
    subst this
    exact ⟨_, B, h2, Ext.refl B, fun _ _ _ _ _ _ => hx⟩
  | .u, x, B, K, val, hx, h => by
    cases x <;> simp only [packV, reduceCtorEq] at h
    exact ⟨_, B, h, Ext.refl B, fun _ _ _ _ _ _ => hx⟩
  | .b, x, B, K, val, hx, h => by
    cases x <;> simp only [packV, reduceCtorEq] at h
    · exact ⟨_, B, h, Ext.refl B, fun _ _ _ _ _ _ => hx⟩
    · exact ⟨_, B, h, Ext.refl B, fun _ _ _ _ _ _ => hx⟩
  | .s, x, B, K, val, hx, h => by
    cases x <;> simp only [packV, reduceCtorEq] at h
    exact ⟨_, B, h, Ext.refl B, fun _ _ _ _ _ _ => hx⟩
  | .sl t, x, B, K, val, hx, h => by
    simp only [packV] at h
    obtain ⟨p, B', hK, he, hh⟩ := packSl_ok (pin := pin) (bl := bl) hp hx h
    exact ⟨p, B', hK, he, fun F' Bf H' h1 h2 _ => hh F' Bf H' h1 h2⟩
  | .ptr j o, x, B, K, val, hx, h => by
    cases x <;> simp only [packV, reduceCtorEq] at h
    obtain ⟨h1, h2⟩ := cond_some h
    have := Nat.eq_of_beq_eq_true h1
    subst this
    obtain ⟨B', hK, he, hb⟩ := bindB_ok h2
    refine ⟨(), B', hK, he, fun F' Bf H' he' hf hr => ?_⟩
    simp only [RelV, unV] at hx ⊢
    obtain ⟨hl, g, hg, hv⟩ := hx
    simp only [refsOK, Option.isSome_iff_exists] at hr
    obtain ⟨s, hs⟩ := hr
    exact ⟨(hf.kin j s hs).live, g, by rw [muB_of he' hb]; exact hg, hv⟩
  | .mp j, x, B, K, val, hx, h => by
    cases x <;> simp only [packV, reduceCtorEq] at h
    obtain ⟨B', hK, he, hb⟩ := bindB_ok h
    refine ⟨(), B', hK, he, fun F' Bf H' he' hf hr => ?_⟩
    simp only [RelV, unV] at hx ⊢
    obtain ⟨hl, g, hg, hv⟩ := hx
    simp only [refsOK, Option.isSome_iff_exists] at hr
    obtain ⟨s, hs⟩ := hr
    exact ⟨(hf.kin j s hs).live, g, by rw [muB_of he' hb]; exact hg, hv⟩
  | .mptr j o, x, B, K, val, hx, h => by
    simp only [packV] at h
    obtain ⟨p, B', hK, he, hh⟩ := packMp_ok (pin := pin) (bl := bl) hx h
    exact ⟨p, B', hK, he, hh⟩
  | .own j, x, B, K, val, hx, h => by
    simp only [packV] at h
    obtain ⟨B', hK, he, hh⟩ := packOwn_ok (pin := pin) (bl := bl) hx h
    exact ⟨(), B', hK, he, hh⟩
  | .win j, x, B, K, val, hx, h => by
    simp only [packV] at h
    obtain ⟨p, B', hK, he, hh⟩ := packWin_ok (pin := pin) (bl := bl) hx h
    exact ⟨p, B', hK, he, hh⟩
  | .fn f cs, x, B, K, val, hx, h => by
    cases x <;> simp only [packV, reduceCtorEq] at h
    obtain ⟨h1, h2⟩ := cond_some h
    have := Nat.eq_of_beq_eq_true h1
    subst this
    simp only [RelV] at hx
    obtain ⟨vs, hv, hvs⟩ := hx
    obtain ⟨p, B', hK, he, hh⟩ := packL_ok hp cs _ B K vs hvs h2
    refine ⟨p, B', hK, he, fun F' Bf H' he' hf hr => ?_⟩
    simp only [unV, RelV]
    exact ⟨vs, hv, hh F' Bf H' he' hf hr⟩
  | .agg cs, x, B, K, val, hx, h => by
    cases x <;> simp only [packV, reduceCtorEq] at h
    simp only [RelV] at hx
    obtain ⟨vs, hv, hvs⟩ := hx
    obtain ⟨p, B', hK, he, hh⟩ := packL_ok hp cs _ B K vs hvs h
    refine ⟨p, B', hK, he, fun F' Bf H' he' hf hr => ?_⟩
    simp only [unV, RelV]
    exact ⟨vs, hv, hh F' Bf H' he' hf hr⟩
  | .tup cs, x, B, K, val, hx, h => by
    cases x <;> simp only [packV, reduceCtorEq] at h
    simp only [RelV] at hx
    obtain ⟨vs, hv, hvs⟩ := hx
    obtain ⟨p, B', hK, he, hh⟩ := packL_ok hp cs _ B K vs hvs h
    refine ⟨p, B', hK, he, fun F' Bf H' he' hf hr => ?_⟩
    simp only [unV, RelV]
    exact ⟨vs, hv, hh F' Bf H' he' hf hr⟩
  | .ifc t v, x, B, K, val, hx, h => by
    cases x <;> simp only [packV, reduceCtorEq] at h
    obtain ⟨h1, h2⟩ := cond_some h
    have := Nat.eq_of_beq_eq_true h1
    subst this
    simp only [RelV] at hx
    obtain ⟨u, hv, hu⟩ := hx
    obtain ⟨p, B', hK, he, hh⟩ := packV_ok hp v _ B K u hu h2
    refine ⟨p, B', hK, he, fun F' Bf H' he' hf hr => ?_⟩
    simp only [unV, RelV]
    exact ⟨u, hv, hh F' Bf H' he' hf hr⟩
  | .may _ _, x, B, K, val, hx, h => by cases x <;> simp [packV] at h
  | .nil, x, B, K, val, hx, h => by cases x <;> simp [packV] at h
  | .cons _ _, x, B, K, val, hx, h => by cases x <;> simp [packV] at h
  | .nilp, x, B, K, val, hx, h => by
    cases x <;> simp only [packV, reduceCtorEq] at h
    obtain ⟨h1, h2⟩ := cond_some h
    simp only [RelV] at hx
    exact ⟨(), B, h2, Ext.refl B, fun _ _ _ _ _ _ => by simp only [unV, RelV]; rw [hx, isNilPtr_ok h1]⟩
  | .bad, x, B, K, val, hx, h => by
    refine ⟨(), B, ?_, Ext.refl B, fun _ _ _ _ _ _ => by simp [unV, RelV]⟩
    cases x <;> exact h
  | .kb y, x, B, K, val, hx, h => by
    cases x <;> simp only [packV, reduceCtorEq] at h
    obtain ⟨h1, h2⟩ := cond_some h
    have := eq_of_beq h1
    subst this
    exact ⟨(), B, h2, Ext.refl B, fun _ _ _ _ _ _ => hx⟩
  | .ki k n, x, B, K, val, hx, h => by
    cases x <;> simp only [packV, reduceCtorEq] at h
    obtain ⟨h1, h2⟩ := cond_some h
    simp only [Bool.and_eq_true, decide_eq_true_eq] at h1
    obtain ⟨rfl, rfl⟩ := h1
    exact ⟨(), B, h2, Ext.refl B, fun _ _ _ _ _ _ => hx⟩
  | .ks l, x, B, K, val, hx, h => by
    cases x <;> simp only [packV, reduceCtorEq] at h
    obtain ⟨h1, h2⟩ := cond_some h
    have := of_decide_eq_true h1
    subst this
    exact ⟨(), B, h2, Ext.refl B, fun _ _ _ _ _ _ => hx⟩
theorem packL_ok (hp : Hp F μ H nx w) : ∀ (v : VSh) (x : List AV) (B : Bd) (K : v.den → Bd → Option α) (vals : List Value), RelVs w (Not F μ H) μ H x vals → packL H v x B K = some r →
    ∃ p B', K p B' = some r ∧ Ext B B' ∧ ∀ (F' : Frm T) Bf H', Ext B' Bf → Fin F F' μ pin H bl Bf H' → refsOK bl v = true → RelVs w (Not F' (muB μ Bf) H') (muB μ Bf) H' (unL v p) vals
  | .nil, [], B, K, vals, hx, h => by
    simp only [packL] at h
    exact ⟨(), B, h, Ext.refl B, fun _ _ _ _ _ _ => hx⟩
  | .cons v v2, x :: xs, B, K, vals, hx, h => by
    simp only [packL] at h
    simp only [RelVs] at hx
    obtain ⟨val, vr, rfl, h1, h2⟩ := hx
    obtain ⟨p, B1, hK1, he1, hh1⟩ := packV_ok hp v x B _ val h1 h
    obtain ⟨q, B2, hK2, he2, hh2⟩ := packL_ok hp v2 xs B1 _ vr h2 hK1
    refine ⟨(p, q), B2, hK2, he1.trans he2, fun F' Bf H' he hf hr => ?_⟩
    simp only [refsOK, Bool.and_eq_true] at hr
    simp only [unL, RelVs]
    exact ⟨val, vr, rfl, hh1 F' Bf H' (he2.trans he) hf hr.1, hh2 F' Bf H' he hf hr.2⟩
  | .nil, _ :: _, B, K, vals, hx, h => by simp [packL] at h
  | .cons _ _, [], B, K, vals, hx, h => by simp [packL] at h
  | .i _, x, B, K, vals, hx, h => by cases x <;> simp [packL] at h
  | .u, x, B, K, vals, hx, h => by cases x <;> simp [packL] at h
  | .b, x, B, K, vals, hx, h => by cases x <;> simp [packL] at h
  | .s, x, B, K, vals, hx, h => by cases x <;> simp [packL] at h
  | .sl _, x, B, K, vals, hx, h => by cases x <;> simp [packL] at h
  | .ptr _ _, x, B, K, vals, hx, h => by cases x <;> simp [packL] at h
  | .ifc _ _, x, B, K, vals, hx, h => by cases x <;> simp [packL] at h
  | .may _ _, x, B, K, vals, hx, h => by cases x <;> simp [packL] at h
  | .own _, x, B, K, vals, hx, h => by cases x <;> simp [packL] at h
  | .win _, x, B, K, vals, hx, h => by cases x <;> simp [packL] at h
  | .mp _, x, B, K, vals, hx, h => by cases x <;> simp [packL] at h
  | .mptr _ _, x, B, K, vals, hx, h => by cases x <;> simp [packL] at h
  | .fn _ _, x, B, K, vals, hx, h => by cases x <;> simp [packL] at h
  | .agg _, x, B, K, vals, hx, h => by cases x <;> simp [packL] at h
  | .tup _, x, B, K, vals, hx, h => by cases x <;> simp [packL] at h
  | .nilp, x, B, K, vals, hx, h => by cases x <;> simp [packL] at h
  | .bad, x, B, K, vals, hx, h => by cases x <;> simp [packL] at h
  | .kb _, x, B, K, vals, hx, h => by cases x <;> simp [packL] at h
  | .ki _ _, x, B, K, vals, hx, h => by cases x <;> simp [packL] at h
  | .ks _, x, B, K, vals, hx, h => by cases x <;> simp [packL] at h
end

end
end Go.Ev

namespace Go.Ev
open Go
section
variable {T : Tb} {F F' : Frm T} {μ : Nat → Option Nat} {H : Nat → Blk} {nx : Nat} {w : World} {α : Type} {r : α} {pin : Nat} {bl : List (Nat × BSh)}

theorem pinned {j b : Nat} (h : (Nat.ble pin j || Nat.beq b j) = true) : j < pin → b = j := fun hj => by
  rw [Bool.or_eq_true] at h
  rcases h with h | h
  · have := Nat.le_of_ble_eq_true h; omega
  · exact Nat.eq_of_beq_eq_true h

theorem bindB_ext {B : Bd} {j : Nat} {b : Option Nat} {K : Bd → Option α} (h : bindB B j b K = some r) : ∃ B', K B' = some r ∧ Ext B B' := by
  obtain ⟨B', h1, h2, _⟩ := bindB_ok h
  exact ⟨B', h1, h2⟩

theorem nilV_ok : ∀ (v : VSh) {B : Bd} {K : v.den → Bd → Option α}, nilV v B K = some r → ∃ q B', K q B' = some r ∧ Ext B B'
  | .i _, B, K, h => ⟨_, B, h, Ext.refl B⟩
  | .u, B, K, h => ⟨_, B, h, Ext.refl B⟩
  | .b, B, K, h => ⟨_, B, h, Ext.refl B⟩
  | .s, B, K, h => ⟨_, B, h, Ext.refl B⟩
  | .sl _, B, K, h => ⟨_, B, h, Ext.refl B⟩
  | .ptr _ _, B, K, h => by obtain ⟨B', h1, h2⟩ := bindB_ext h; exact ⟨(), B', h1, h2⟩
  | .own _, B, K, h => by obtain ⟨B', h1, h2⟩ := bindB_ext h; exact ⟨(), B', h1, h2⟩
  | .win _, B, K, h => by obtain ⟨B', h1, h2⟩ := bindB_ext h; exact ⟨(0, 0), B', h1, h2⟩
  | .mp _, B, K, h => by obtain ⟨B', h1, h2⟩ := bindB_ext h; exact ⟨(), B', h1, h2⟩
  | .mptr _ _, B, K, h => by obtain ⟨B', h1, h2⟩ := bindB_ext h; exact ⟨false, B', h1, h2⟩
  | .fn _ c, B, K, h => nilV_ok c h
  | .agg c, B, K, h => nilV_ok c h
  | .tup c, B, K, h => nilV_ok c h
  | .ifc _ c, B, K, h => nilV_ok c h
  | .may c _, B, K, h => by
    obtain ⟨q, B', h1, h2⟩ := nilV_ok c h
    exact ⟨Sum.inl q, B', h1, h2⟩
  | .nil, B, K, h => ⟨_, B, h, Ext.refl B⟩
  | .cons v w, B, K, h => by
    obtain ⟨p, B1, h1, e1⟩ := nilV_ok v h
    obtain ⟨q, B2, h2, e2⟩ := nilV_ok w h1
    exact ⟨(p, q), B2, h2, e1.trans e2⟩
  | .nilp, B, K, h => ⟨_, B, h, Ext.refl B⟩
  | .bad, B, K, h => ⟨_, B, h, Ext.refl B⟩
  | .kb _, B, K, h => ⟨_, B, h, Ext.refl B⟩
  | .ki _ _, B, K, h => ⟨_, B, h, Ext.refl B⟩
  | .ks _, B, K, h => ⟨_, B, h, Ext.refl B⟩

theorem packSl_cps {t : Ty} {x : AV} {B : Bd} {K : List t.den → Bd → Option α} (h : packSl H t x B K = some r) : ∃ q B', K q B' = some r ∧ Ext B B' := by
  have zext : ∀ b, Ext B ⟨B.m, b :: B.z⟩ := fun b => ⟨fun _ _ h => h, fun _ h => List.mem_cons_of_mem _ h⟩
  unfold packSl at h
  split at h
  · obtain ⟨l, hl⟩ := items_cps h; exact ⟨l, _, hl, zext _⟩
  · obtain ⟨l, hl⟩ := items_cps h; exact ⟨l, _, hl, zext _⟩
  · obtain ⟨l, hl⟩ := items_cps h; exact ⟨l, _, hl, Ext.refl B⟩

mutual
theorem packV_cps : ∀ (v : VSh) {x : AV} {B : Bd} {K : v.den → Bd → Option α}, packV H v x B K = some r → ∃ q B', K q B' = some r ∧ Ext B B'
  | .i k, x, B, K, h => by
    cases x <;> simp only [packV, reduceCtorEq] at h
    exact ⟨_, B, (cond_some h).2, Ext.refl B⟩
  | .u, x, B, K, h => by
    cases x <;> simp only [packV, reduceCtorEq] at h
    exact ⟨_, B, h, Ext.refl B⟩
  | .b, x, B, K, h => by
    cases x <;> simp only [packV, reduceCtorEq] at h
    · exact ⟨_, B, h, Ext.refl B⟩
    · exact ⟨_, B, h, Ext.refl B⟩
  | .s, x, B, K, h => by
    cases x <;> simp only [packV, reduceCtorEq] at h
    exact ⟨_, B, h, Ext.refl B⟩
  | .sl t, x, B, K, h => by
    simp only [packV] at h
    exact packSl_cps h
  | .ptr j o, x, B, K, h => by
    cases x <;> simp only [packV, reduceCtorEq] at h
    obtain ⟨B', h1, h2⟩ := bindB_ext (cond_some h).2
    exact ⟨(), B', h1, h2⟩
  | .own j, x, B, K, h => by
    simp only [packV] at h
    cases x <;> simp only [packOwn, reduceCtorEq] at h
    · obtain ⟨B', h1, h2⟩ := bindB_ext (cond_some h).2; exact ⟨(), B', h1, h2⟩
    · obtain ⟨B', h1, h2⟩ := bindB_ext h; exact ⟨(), B', h1, h2⟩
  | .win j, x, B, K, h => by
    simp only [packV] at h
    cases x <;> simp only [packWin, reduceCtorEq] at h
    · split at h
      · obtain ⟨B', h1, h2⟩ := bindB_ext h; exact ⟨_, B', h1, h2⟩
      · cases h
    · obtain ⟨B', h1, h2⟩ := bindB_ext h; exact ⟨_, B', h1, h2⟩
  | .mp j, x, B, K, h => by
    cases x <;> simp only [packV, reduceCtorEq] at h
    obtain ⟨B', h1, h2⟩ := bindB_ext h
    exact ⟨(), B', h1, h2⟩
  | .mptr j o, x, B, K, h => by
    simp only [packV] at h
    cases x <;> simp only [packMp, reduceCtorEq] at h
    · obtain ⟨B', h1, h2⟩ := bindB_ext (cond_some h).2; exact ⟨_, B', h1, h2⟩
    · obtain ⟨B', h1, h2⟩ := bindB_ext (cond_some h).2; exact ⟨_, B', h1, h2⟩
    · obtain ⟨B', h1, h2⟩ := bindB_ext (cond_some h).2; exact ⟨_, B', h1, h2⟩
  | .fn f cs, x, B, K, h => by
    cases x <;> simp only [packV, reduceCtorEq] at h
    exact packL_cps cs (cond_some h).2
  | .agg cs, x, B, K, h => by
    cases x <;> simp only [packV, reduceCtorEq] at h
    exact packL_cps cs h
  | .tup cs, x, B, K, h => by
    cases x <;> simp only [packV, reduceCtorEq] at h
    exact packL_cps cs h
  | .ifc t v, x, B, K, h => by
    cases x <;> simp only [packV, reduceCtorEq] at h
    exact packV_cps v (cond_some h).2
  | .may _ _, x, B, K, h => by cases x <;> simp [packV] at h
  | .nil, x, B, K, h => by cases x <;> simp [packV] at h
  | .cons _ _, x, B, K, h => by cases x <;> simp [packV] at h
  | .nilp, x, B, K, h => by
    cases x <;> simp only [packV, reduceCtorEq] at h
    exact ⟨_, B, (cond_some h).2, Ext.refl B⟩
  | .bad, x, B, K, h => by
    refine ⟨(), B, ?_, Ext.refl B⟩
    cases x <;> exact h
  | .kb y, x, B, K, h => by
    cases x <;> simp only [packV, reduceCtorEq] at h
    exact ⟨_, B, (cond_some h).2, Ext.refl B⟩
  | .ki k n, x, B, K, h => by
    cases x <;> simp only [packV, reduceCtorEq] at h
    exact ⟨_, B, (cond_some h).2, Ext.refl B⟩
  | .ks l, x, B, K, h => by
    cases x <;> simp only [packV, reduceCtorEq] at h
    exact ⟨_, B, (cond_some h).2, Ext.refl B⟩
theorem packL_cps : ∀ (v : VSh) {x : List AV} {B : Bd} {K : v.den → Bd → Option α}, packL H v x B K = some r → ∃ q B', K q B' = some r ∧ Ext B B'
  | .nil, [], B, K, h => ⟨(), B, by simpa only [packL] using h, Ext.refl B⟩
  | .cons v v2, x :: xs, B, K, h => by
    simp only [packL] at h
    obtain ⟨p, B1, h1, e1⟩ := packV_cps v h
    obtain ⟨q, B2, h2, e2⟩ := packL_cps v2 h1
    exact ⟨(p, q), B2, h2, e1.trans e2⟩
  | .nil, _ :: _, B, K, h => by simp [packL] at h
  | .cons _ _, [], B, K, h => by simp [packL] at h
  | .i _, x, B, K, h => by cases x <;> simp [packL] at h
  | .u, x, B, K, h => by cases x <;> simp [packL] at h
  | .b, x, B, K, h => by cases x <;> simp [packL] at h
  | .s, x, B, K, h => by cases x <;> simp [packL] at h
  | .sl _, x, B, K, h => by cases x <;> simp [packL] at h
  | .ptr _ _, x, B, K, h => by cases x <;> simp [packL] at h
  | .own _, x, B, K, h => by cases x <;> simp [packL] at h
  | .win _, x, B, K, h => by cases x <;> simp [packL] at h
  | .mp _, x, B, K, h => by cases x <;> simp [packL] at h
  | .mptr _ _, x, B, K, h => by cases x <;> simp [packL] at h
  | .fn _ _, x, B, K, h => by cases x <;> simp [packL] at h
  | .agg _, x, B, K, h => by cases x <;> simp [packL] at h
  | .tup _, x, B, K, h => by cases x <;> simp [packL] at h
  | .nilp, x, B, K, h => by cases x <;> simp [packL] at h
  | .bad, x, B, K, h => by cases x <;> simp [packL] at h
  | .kb _, x, B, K, h => by cases x <;> simp [packL] at h
  | .ki _ _, x, B, K, h => by cases x <;> simp [packL] at h
  | .ks _, x, B, K, h => by cases x <;> simp [packL] at h
end

theorem packBlk_ok (hp : Hp F μ H nx w) {j : Nat} : ∀ (s : BSh) {B : Bd} {K : s.den → Bd → Option α}, packBlk pin H j s B K = some r →
    ∃ q B', K q B' = some r ∧ Ext B B' ∧ From pin H B' j (unB s q) ∧ ∀ (F' : Frm T) Bf H', Ext B' Bf → Fin F F' μ pin H bl Bf H' → bshOK bl s = true → RelB w (Not F' (muB μ Bf) H') (muB μ Bf) H' j (unB s q)
  | .vars cs, B, K, h => by
    simp only [packBlk] at h
    cases hf : findB B.m j with
    | none => simp [hf] at h
    | some o =>
      cases o with
      | none =>
        simp only [hf] at h
        obtain ⟨h1, h2⟩ := cond_some h
        obtain ⟨q, B', hK, he⟩ := nilV_ok cs h2
        have hf' := he.m j _ hf
        refine ⟨q, B', hK, he, ?_, fun F' Bf H' he' hfin hok => ?_⟩
        · unfold From
          rw [hf']
          exact ⟨Nat.le_of_ble_eq_true h1, .inr (.inl ⟨_, rfl⟩)⟩
        · simp only [unB, RelB]
          refine .inl ?_
          unfold muB
          rw [he'.m j _ hf']
      | some b =>
        simp only [hf] at h
        obtain ⟨h1, h2⟩ := cond_some h
        cases hb : H b <;> simp only [hb, reduceCtorEq] at h2
        rename_i l
        have hB := hp.blk b
        simp only [hb, RelB] at hB
        rcases hB with hB | ⟨g, vs, hg, hvs, hrow, hroom⟩
        · obtain ⟨q, B', hK, he⟩ := packL_cps cs h2
          have hf' := he.m j _ hf
          refine ⟨q, B', hK, he, ?_, fun F' Bf H' he' hfin hok => ?_⟩
          · unfold From
            rw [hf']
            exact ⟨by simp [hb], by simp [hb], pinned h1, fun _ => by rw [hb]; rfl⟩
          · simp only [unB, RelB]
            exact .inl (by rw [muB_of he' hf']; exact hB)
        obtain ⟨q, B', hK, he, hh⟩ := packL_ok (pin := pin) (bl := bl) hp cs l B K vs hvs h2
        have hf' := he.m j _ hf
        refine ⟨q, B', hK, he, ?_, fun F' Bf H' he' hfin hok => ?_⟩
        · unfold From
          rw [hf']
          exact ⟨by simp [hb], by simp [hb], pinned h1, fun _ => by rw [hb]; rfl⟩
        · simp only [unB, RelB]
          exact .inr ⟨g, vs, by rw [muB_of he' hf']; exact hg, hh F' Bf H' he' hfin hok, hrow, hroom⟩
  | .data t, B, K, h => by
    simp only [packBlk] at h
    cases hf : findB B.m j with
    | none => simp [hf] at h
    | some o =>
      cases o with
      | none =>
        simp only [hf] at h
        obtain ⟨h1, h2⟩ := cond_some h
        refine ⟨[], B, h2, Ext.refl B, ?_, fun F' Bf H' he' hfin hok => ?_⟩
        · unfold From
          rw [hf]
          exact ⟨Nat.le_of_ble_eq_true h1, .inl ⟨t, rfl⟩⟩
        · simp only [unB, RelB]
          refine .inl ⟨?_, trivial⟩
          unfold muB
          rw [he'.m j _ hf]
      | some b =>
        simp only [hf] at h
        obtain ⟨h1, h2⟩ := cond_some h
        cases hb : H b <;> simp only [hb, reduceCtorEq] at h2
        rename_i t' l
        split at h2
        · rename_i ht
          subst ht
          have hB := hp.blk b
          simp only [hb, RelB] at hB
          refine ⟨l, B, h2, Ext.refl B, ?_, fun F' Bf H' he' hfin hok => ?_⟩
          · unfold From
            rw [hf]
            refine ⟨by simp [hb], fun t2 l2 h2 => by rw [hb] at h2; cases h2; rfl, pinned h1, fun ht => absurd rfl ht⟩
          · simp only [unB, RelB]
            rw [muB_of he' hf]
            rcases hB with hB | ⟨g, g1, g2, g3⟩
            · exact .inl hB
            · refine .inr ⟨g, g1, g2, fun i hi => ?_⟩
              obtain ⟨es, e1, e2, e3⟩ := g3 i hi
              exact ⟨es, e1, e2, e3.keep (keepRefl w) fun _ _ => hfin.not⟩
        · cases h2
  | .iter, B, K, h => by
    simp only [packBlk] at h
    cases hf : findB B.m j with
    | none => simp [hf] at h
    | some o =>
      cases o with
      | none => simp [hf] at h
      | some b =>
        simp only [hf] at h
        obtain ⟨h1, h2⟩ := cond_some h
        cases hb : H b <;> simp only [hb, reduceCtorEq] at h2
        rename_i s pos
        have hB := hp.blk b
        simp only [hb, RelB] at hB
        refine ⟨(s, pos), B, h2, Ext.refl B, ?_, fun F' Bf H' he' hfin hok => ?_⟩
        · unfold From
          rw [hf]
          exact ⟨by simp [hb], by simp [hb], pinned h1, fun ht => absurd rfl ht⟩
        · simp only [unB, RelB]
          rw [muB_of he' hf]
          exact hB
  | .mapd kt vt ag, B, K, h => by
    simp only [packBlk] at h
    cases hf : findB B.m j with
    | none => simp [hf] at h
    | some o =>
      cases o with
      | none =>
        simp only [hf] at h
        obtain ⟨h1, h2⟩ := cond_some h
        refine ⟨[], B, h2, Ext.refl B, ?_, fun F' Bf H' he' hfin hok => ?_⟩
        · unfold From
          rw [hf]
          exact ⟨Nat.le_of_ble_eq_true h1, .inr (.inr ⟨_, _, _, _, rfl⟩)⟩
        · simp only [unB, RelB]
          refine .inl ?_
          unfold muB
          rw [he'.m j _ hf]
      | some b =>
        simp only [hf] at h
        obtain ⟨h1, h2⟩ := cond_some h
        cases hb : H b <;> simp only [hb, reduceCtorEq] at h2
        rename_i kt' vt' ag' l
        split at h2
        · rename_i e1
          split at h2
          · rename_i e2
            subst e1
            subst e2
            obtain ⟨h3, h4⟩ := cond_some h2
            have := eq_of_beq h3
            subst this
            have hB := hp.blk b
            simp only [hb, RelB] at hB
            refine ⟨l, B, h4, Ext.refl B, ?_, fun F' Bf H' he' hfin hok => ?_⟩
            · unfold From
              rw [hf]
              exact ⟨by simp [hb], by simp [hb], pinned h1, fun _ => by rw [hb]; rfl⟩
            · simp only [unB, RelB]
              rw [muB_of he' hf]
              rcases hB with hB | ⟨g, es, c, g1, g2, g3, g4⟩
              · exact .inl hB
              exact .inr ⟨g, es, c, g1, g2, g3, g4.keep (keepRefl w) fun _ _ => hfin.not⟩
          · cases h2
        · cases h2

theorem beq_ne {j k : Nat} (h : j ≠ k) : Nat.beq j k = false := Bool.eq_false_iff.2 fun e => h (Nat.eq_of_beq_eq_true e)

theorem packBlks_ok (hp : Hp F μ H nx w) : ∀ (l : List (Nat × BSh)) {B : Bd} {K : blksDen l → Bd → Option α}, packBlks pin H l B K = some r →
    ∃ q B', K q B' = some r ∧ Ext B B' ∧ (∀ j, unBlks l q j ≠ .dead → From pin H B' j (unBlks l q j)) ∧ (∀ j s, kindIn l j = some s → Kin s (unBlks l q j)) ∧ (∀ j, unBlks l q j ≠ .dead → ∃ p ∈ l, p.1 = j) ∧
      ∀ (F' : Frm T) Bf H', Ext B' Bf → Fin F F' μ pin H bl Bf H' → (l.all fun p => bshOK bl p.2) = true → ∀ j, RelB w (Not F' (muB μ Bf) H') (muB μ Bf) H' j (unBlks l q j)
  | [], B, K, h => by
    simp only [packBlks] at h
    exact ⟨(), B, h, Ext.refl B, fun j hj => absurd rfl hj, fun j s hs => by simp [kindIn] at hs, fun j hj => absurd rfl hj, fun _ _ _ _ _ _ _ => by simp [unBlks, RelB]⟩
  | (j0, s0) :: l, B, K, h => by
    simp only [packBlks] at h
    obtain ⟨p, B1, hK1, he1, hf1, hr1⟩ := packBlk_ok (bl := bl) hp s0 h
    obtain ⟨q, B2, hK2, he2, hf2, hk2, hm2, hr2⟩ := packBlks_ok hp l hK1
    refine ⟨(p, q), B2, hK2, he1.trans he2, fun j hj => ?_, fun j s hs => ?_, fun j hj => ?_, fun F' Bf H' he hfin hall j => ?_⟩
    · simp only [unBlks] at hj ⊢
      by_cases hjj : j = j0
      · subst hjj; rw [updH_same]; exact hf1.ext he2
      · rw [updH_other hjj] at hj ⊢; exact hf2 j hj
    · simp only [kindIn] at hs
      simp only [unBlks]
      by_cases hjj : j = j0
      · subst hjj
        rw [updH_same]
        simp only [Nat.beq_refl, cond_true, Option.some.injEq] at hs
        subst hs
        exact unB_kin _ _
      · rw [updH_other hjj]
        simp only [beq_ne (Ne.symm hjj), cond_false] at hs
        exact hk2 j s hs
    · simp only [unBlks] at hj
      by_cases hjj : j = j0
      · exact ⟨_, List.mem_cons_self, hjj.symm⟩
      · rw [updH_other hjj] at hj
        obtain ⟨p, hp, e⟩ := hm2 j hj
        exact ⟨p, List.mem_cons_of_mem _ hp, e⟩
    · simp only [List.all_cons, Bool.and_eq_true] at hall
      simp only [unBlks]
      by_cases hjj : j = j0
      · subst hjj; rw [updH_same]; exact hr1 F' Bf H' (he2.trans he) hfin hall.1
      · rw [updH_other hjj]; exact hr2 F' Bf H' he hfin hall.2 j

theorem unV_noGd : ∀ (v : VSh) (p : v.den), ∀ j b x, unV v p ≠ .gd j b x := by
  intro v
  induction v with
  | may v w h1 h2 =>
    intro p j b x
    show (match (p : v.den ⊕ w.den) with
      | .inl p => unV v p
      | .inr p => .pan (unV w p)) ≠ _
    cases (show v.den ⊕ w.den from p) with
    | inl p => exact h1 p j b x
    | inr p => simp
  | _ => intro p j b x; simp [unV]

theorem packSlots_ok {S : St} {tmps : Array Value} (hp : Hp F μ S.H nx w) (hE : ∀ t, RelV w (Not F μ S.H) μ S.H (S.E t) (tmps.getD t undef)) : ∀ (l : List (Nat × VSh)) {B : Bd} {K : slotsDen l → Bd → Option α}, packSlots S l B K = some r →
    ∃ q B', K q B' = some r ∧ Ext B B' ∧ ∀ (F' : Frm T) Bf H', Ext B' Bf → Fin F F' μ pin S.H bl Bf H' → (l.all fun p => refsOK bl p.2) = true → ∀ t, RelV w (Not F' (muB μ Bf) H') (muB μ Bf) H' (unSlots l q t) (tmps.getD t undef) ∧ ∀ j b x, unSlots l q t ≠ .gd j b x
  | [], B, K, h => by
    simp only [packSlots] at h
    exact ⟨(), B, h, Ext.refl B, fun _ _ _ _ _ _ _ => by simp [unSlots, RelV]⟩
  | (t0, v) :: l, B, K, h => by
    simp only [packSlots] at h
    obtain ⟨p, B1, hK1, he1, hr1⟩ := packV_ok (pin := pin) (bl := bl) hp v _ B _ _ (hE t0) h
    obtain ⟨q, B2, hK2, he2, hr2⟩ := packSlots_ok hp hE l hK1
    refine ⟨(p, q), B2, hK2, he1.trans he2, fun F' Bf H' he hfin hall t => ?_⟩
    simp only [List.all_cons, Bool.and_eq_true] at hall
    simp only [unSlots]
    by_cases htt : t = t0
    · subst htt; rw [upd_same]; exact ⟨hr1 F' Bf H' (he2.trans he) hfin hall.1, unV_noGd v p⟩
    · rw [upd_other htt]; exact hr2 F' Bf H' he hfin hall.2 t

/-- The new heap, held against the world. -/
theorem Fin.hp {B : Bd} {H' : Nat → Blk} {nx' : Nat} (hp : Hp F μ H nx w) (hfin : Fin F F' μ pin H bl B H') (hb : ∀ j, RelB w (Not F' (muB μ B) H') (muB μ B) H' j (H' j)) (hd : ∀ j, nx' ≤ j → H' j = .dead)
    (far : ∀ j b g, H' j ≠ .dead → findB B.m j = some (some b) → H b ≠ .dead → μ b = some g → ¬ F' g) (flt : ∀ g, F' g → g < w.heap.size) : Hp F' (muB μ B) H' nx' w where
  blk := hb
  lt := fun j g hl hg => by
    obtain ⟨b, h1, h2⟩ := hfin.trk ⟨j, hl, hg⟩
    exact hp.lt b g h1 h2
  inj := fun j j' g hl hl' hg hg' => by
    have key : ∀ k, H' k ≠ .dead → muB μ B k = some g → ∃ b, findB B.m k = some (some b) ∧ H b ≠ .dead ∧ μ b = some g := fun k hk hm => by
      have h3 := hfin.src k hk
      unfold From at h3
      unfold muB at hm
      cases hf : findB B.m k with
      | none => simp [hf] at hm
      | some o =>
        cases o with
        | none => simp [hf] at hm
        | some b => simp only [hf] at hm h3; exact ⟨b, rfl, h3.1, hm⟩
    obtain ⟨b, b1, b2, b3⟩ := key j hl hg
    obtain ⟨c, c1, c2, c3⟩ := key j' hl' hg'
    have := hp.inj b c g b2 c2 b3 c3
    subst this
    exact Bd.ok_inj hfin.ok b1 c1
  dead := hd
  apart := fun j g hl hg => by
    have h3 := hfin.src j hl
    unfold From at h3
    unfold muB at hg
    cases hf : findB B.m j with
    | none => simp [hf] at hg
    | some o =>
      cases o with
      | none => simp [hf] at hg
      | some b => simp only [hf] at hg h3; exact far j b g hl hf h3.1 hg
  flt := flt
  tab := hp.tab
  tapart := fun j g hl hg => by
    obtain ⟨b, h1, h2⟩ := hfin.trk ⟨j, hl, hg⟩
    exact hp.tapart b g h1 h2

theorem Fin.pinned {B : Bd} {H' : Nat → Blk} (hfin : Fin F F' μ pin H bl B H') : ∀ j, j < pin → Pin (H' j) (H j) (muB μ B j) (μ j) := by
  intro j hj ht
  have h3 := hfin.src j (fun h => ht (by rw [h]; rfl))
  unfold From at h3
  unfold muB
  cases hf : findB B.m j with
  | none => simp [hf] at h3
  | some o =>
    cases o with
    | none => simp only [hf] at h3; omega
    | some b =>
      simp only [hf] at h3 ⊢
      obtain ⟨_, _, h4, h5⟩ := h3
      have := h4 hj
      subst this
      exact ⟨h5 ht, rfl⟩

/-- What a turn of the state's shape leaves. -/
structure Shaped {T : Tb} (F : Frm T) (pin : Nat) (μ : Nat → Option Nat) (S : St) (w : World) (μ' : Nat → Option Nat) (S' : St) : Prop where
  hp : Hp F μ' S'.H S'.nx w
  trk : ∀ g, Trk μ' S'.H g → Trk μ S.H g
  pinned : ∀ j, j < pin → Pin (S'.H j) (S.H j) (μ' j) (μ j)
  le : pin ≤ S'.nx

theorem pack_ok {S : St} {a : Act} {sh : Shape} {K : sh.den → Option α} (hr : Rg F μ [] S a w) (h : pack pin sh S K = some r) :
    ∃ p μ', K p = some r ∧ Shaped F pin μ S w μ' (unpack sh p) ∧ Rg F μ' [] (unpack sh p) a w := by
  unfold pack at h
  obtain ⟨hok, h1⟩ := cond_some h
  simp only [shapeOK, Bool.and_eq_true] at hok
  obtain ⟨⟨hpin, hslots⟩, hblks⟩ := hok
  have hE : ∀ t, RelV w (Not F μ S.H) μ S.H (S.E t) (a.tmps.getD t undef) := fun t => by
    have := hr.e t
    cases hE : S.E t <;> simp only [hE] at this ⊢ <;> first | exact this | simp [RelV]
  obtain ⟨p, B1, hK1, he1, hr1⟩ := packSlots_ok (pin := pin) (bl := sh.blks) hr.hp hE sh.slots h1
  obtain ⟨q, B2, hK2, he2, hf2, hk2, hm2, hr2⟩ := packBlks_ok (bl := sh.blks) hr.hp sh.blks hK1
  obtain ⟨hB, hK3⟩ := cond_some hK2
  have hfin : Fin F F μ pin S.H sh.blks B2 (unBlks sh.blks q) := ⟨hB, hf2, hk2, fun _ h => .inl h, fun b g _ hl hm => hr.hp.apart b g hl hm⟩
  have hall : (sh.blks.all fun p => bshOK sh.blks p.2) = true := by
    simp only [blksOK, List.all_eq_true, Bool.and_eq_true] at hblks ⊢
    exact fun p hp => (hblks p hp).2
  have hhp : Hp F (muB μ B2) (unBlks sh.blks q) sh.nx w := hfin.hp hr.hp (fun j => hr2 F B2 _ (Ext.refl B2) hfin hall j) (fun j hj => by
    cases hd : unBlks sh.blks q j with
    | dead => rfl
    | _ =>
      all_goals
        obtain ⟨p, hp, e⟩ := hm2 j (by simp [hd])
        simp only [blksOK, List.all_eq_true, Bool.and_eq_true] at hblks
        have := Nat.le_of_ble_eq_true (hblks p hp).1
        omega) (fun _ b g _ _ hl hm => hr.hp.apart b g hl hm) hr.hp.flt
  have hrel := fun t => hr1 F B2 (unBlks sh.blks q) he2 hfin hslots t
  refine ⟨(p, q), muB μ B2, hK3, ⟨hhp, fun g => hfin.trk, hfin.pinned, Nat.le_of_ble_eq_true hpin⟩, hhp, fun t => ?_, fun t j b x hE => absurd hE ((hrel t).2 j b x)⟩
  obtain ⟨h1, h2⟩ := hrel t
  show (match unSlots sh.slots p t with
    | .gd j b x => _
    | x => RelV w _ _ _ x (a.tmps.getD t undef))
  cases hu : unSlots sh.slots p t <;> rw [hu] at h1 h2 <;> first | exact h1 | exact absurd rfl (h2 _ _ _)

end
end Go.Ev

namespace Go.Ev
open Go

def exOf : Ex → Exit
  | .normal => .normal
  | .exit id => .exit id
  | .ret => .ret
  | .pan => .ret

/-- How a piece of code is left, and by which act it is held: where it panics, by one that holds the panic's value. -/
def XR (ex : Ex) (e : Exit) (a' av : Act) : Prop :=
  match ex with
  | .pan => e = .panic [{ v := av.tmps.getD 0 undef, recovered := false }] ∧ a'.defers = av.defers
  | ex => e = exOf ex ∧ a' = av

def isLeaf : HT → Bool
  | .leaf => true
  | _ => false

/-- Behind a piece of code. -/
structure CP (lf : Bool) {T : Tb} (F : Frm T) (pin : Nat) (μ : Nat → Option Nat) (S : St) (w : World) (a : Act) (μ' : Nat → Option Nat) (S' : St) (w' : World) (a' : Act) : Prop where
  chg : Chg (Trk μ S.H) w w'
  new : ∀ g, Trk μ' S'.H g → Trk μ S.H g ∨ w.heap.size ≤ g
  pinned : ∀ j, j < pin → Pin (S'.H j) (S.H j) (μ' j) (μ j)
  le : pin ≤ S'.nx
  rg : Rg F μ' [] S' a' w'
  size : a'.tmps.size = a.tmps.size
  defers : a'.defers = a.defers
  pl : lf = true → ∃ kl, S'.kl = S.kl ++ kl ∧ Pl F μ S.H S.nx w kl μ' S'.H S'.nx w'

section
variable {P : Program} {F : Frm (tabsOf P)} {μ μ' μ'' : Nat → Option Nat} {S S' S'' : St} {w w' w'' : World} {a a' a'' : Act} {α : Type} {r : α} {M : FuncId → Bool} {pin : Nat} {lf lf' : Bool}

theorem CP.refl (hr : Rg F μ [] S a w) (hp : pin ≤ S.nx) : CP lf F pin μ S w a μ S w a :=
  ⟨Chg.refl w, fun _ h => .inl h, fun _ _ => Pin.refl _ _, hp, hr, rfl, rfl, fun _ => ⟨[], by simp, Pl.refl hr.hp⟩⟩

theorem CP.trans (h : CP lf F pin μ S w a μ' S' w' a') (h' : CP lf F pin μ' S' w' a' μ'' S'' w'' a'') : CP lf F pin μ S w a μ'' S'' w'' a'' where
  chg := h.chg.trans h'.chg fun g hg ht => (h.new g ht).resolve_right (by omega)
  new := fun g hg => by
    rcases h'.new g hg with h1 | h1
    · exact h.new g h1
    · exact .inr (Nat.le_trans h.chg.size h1)
  pinned := fun j hj => (h'.pinned j hj).trans (h.pinned j hj)
  le := h'.le
  rg := h'.rg
  size := h'.size.trans h.size
  defers := h'.defers.trans h.defers
  pl := fun hl => by
    obtain ⟨kl, k1, k2⟩ := h.pl hl
    obtain ⟨kl', k3, k4⟩ := h'.pl hl
    exact ⟨kl ++ kl', by rw [k3, k1, List.append_assoc], k2.trans k4⟩

theorem CP.weak (h : CP lf F pin μ S w a μ' S' w' a') (hl : lf' = true → lf = true) : CP lf' F pin μ S w a μ' S' w' a' :=
  ⟨h.chg, h.new, h.pinned, h.le, h.rg, h.size, h.defers, fun hh => h.pl (hl hh)⟩

theorem CP.shaped (hs : Shaped F pin μ S w μ' S') (hr : Rg F μ' [] S' a w) : CP false F pin μ S w a μ' S' w a :=
  ⟨Chg.refl w, fun g h => .inl (hs.trk g h), hs.pinned, hs.le, hr, rfl, rfl, fun h => by cases h⟩

theorem CP.of_post {done' : List Nat} (hpin : pin ≤ S.nx) (h : Post F μ S w a done' S' w' a') : ∃ μ', CP true F pin μ S w a μ' ⟨fun t => noGd (S'.E t), S'.H, S'.nx, S'.kl⟩ w' a' := by
  obtain ⟨⟨μ', kl, h1, h2, h3⟩, h4, h5⟩ := h
  refine ⟨μ', h2.chg, h2.new, fun j hj => h2.pin j (Nat.lt_of_lt_of_le hj hpin), Nat.le_trans hpin h2.mono, ⟨h3.hp, fun t => ?_, fun t j b x hE => absurd hE (noGd_ne _ j b x)⟩, h4, h5, fun _ => ⟨kl, h1, h2⟩⟩
  have he := h3.e t
  show (match noGd (S'.E t) with
    | .gd j b x => _
    | x => RelV w' _ _ _ x (a'.tmps.getD t undef))
  cases hE : S'.E t <;> simp only [hE] at he <;> first | exact he | simp [noGd, RelV]

theorem CP.of_ppost {x : AV} {val : Value} (hpin : pin ≤ S.nx) (h1 : 1 ≤ a.tmps.size) (h : PPost F μ S.H S.nx S.kl w a x S' w' a' val) :
    ∃ μ', CP true F pin μ S w a μ' ⟨upd (fun _ => .bad) 0 (noGd x), S'.H, S'.nx, S'.kl⟩ w' (a.put (some 0) val) ∧ (a.put (some 0) val).tmps.getD 0 undef = val := by
  obtain ⟨⟨μ', kl, h2, h3, h4, h5⟩, _⟩ := h
  have hg : (a.put (some 0) val).tmps.getD 0 undef = val := by
    simp only [Act.put]
    rw [getD_set (by omega), if_pos rfl]
  have hng : ∀ t j b y, upd (fun _ => AV.bad) 0 (noGd x) t ≠ .gd j b y := fun t j b y => by
    by_cases ht : t = 0
    · subst ht; rw [upd_same]; exact noGd_ne _ _ _ _
    · rw [upd_other ht]; simp
  refine ⟨μ', ⟨h3.chg, h3.new, fun j hj => h3.pin j (Nat.lt_of_lt_of_le hj hpin), Nat.le_trans hpin h3.mono, ⟨h4, fun t => ?_, fun t j b y hE => absurd hE (hng t j b y)⟩, Act.put_size _ _ _, Act.put_defers' _ _ _, fun _ => ⟨kl, h2, h3⟩⟩, hg⟩
  have hr : RelV w' (Not F μ' S'.H) μ' S'.H (upd (fun _ => AV.bad) 0 (noGd x) t) ((a.put (some 0) val).tmps.getD t undef) := by
    by_cases ht : t = 0
    · subst ht; rw [upd_same, hg]; exact noGd_rel h5
    · rw [upd_other ht]; simp [RelV]
  have hn := hng t
  show (match upd (fun _ => AV.bad) 0 (noGd x) t with
    | .gd j b y => _
    | y => RelV w' _ _ _ y _)
  cases hE : upd (fun _ => AV.bad) 0 (noGd x) t <;> rw [hE] at hr hn <;> first | exact hr | exact absurd rfl (hn _ _ _)

/-- What evaluation says of code, made good. -/
def EvOK (P : Program) (C : Calling) (M : FuncId → Bool) (pin n : Nat) (c : Code) (h : HT) : Prop :=
  ∀ (S : St) (α : Type) (K : Ex → St → Option α) (r : α), ev P C M pin n c h S K = some r → ∀ (F : Frm (tabsOf P)) μ w a, n = a.tmps.size → pin ≤ S.nx → Rg F μ [] S a w →
    c.wp P (fun e a' w' => ∃ ex S' μ' av, XR ex e a' av ∧ K ex S' = some r ∧ CP (isLeaf h) F pin μ S w a μ' S' w' av) a w

def JOK (P : Program) (C : Calling) (M : FuncId → Bool) (pin n : Nat) (c : Code) (h : HT) : Prop :=
  ∀ (S : St) (α : Type) (K : Ex → St → Option α) (r : α), joined pin h (fun h => ev P C M pin n c h S) K = some r → ∀ (F : Frm (tabsOf P)) μ w a, n = a.tmps.size → pin ≤ S.nx → Rg F μ [] S a w →
    c.wp P (fun e a' w' => ∃ ex S' μ' av, XR ex e a' av ∧ K ex S' = some r ∧ CP (isLeaf h) F pin μ S w a μ' S' w' av) a w

theorem eqEx_eq : ∀ {x y : Ex}, eqEx x y = true → x = y
  | .normal, .normal, _ => rfl
  | .ret, .ret, _ => rfl
  | .pan, .pan, _ => rfl
  | .exit _, .exit _, h => by rw [Nat.eq_of_beq_eq_true h]
  | .normal, .ret, h => by cases h
  | .normal, .exit _, h => by cases h
  | .normal, .pan, h => by cases h
  | .ret, .normal, h => by cases h
  | .ret, .exit _, h => by cases h
  | .ret, .pan, h => by cases h
  | .exit _, .normal, h => by cases h
  | .exit _, .ret, h => by cases h
  | .exit _, .pan, h => by cases h
  | .pan, .normal, h => by cases h
  | .pan, .ret, h => by cases h
  | .pan, .exit _, h => by cases h

theorem packOuts_ok {ex : Ex} (hr : Rg F μ [] S a w) : ∀ (o : Outs) {K : outsDen o → Option α}, packOuts pin S ex o K = some r →
    ∃ (q : outsDen o) (S' : St) (μ' : Nat → Option Nat), K q = some r ∧ (∀ (β : Type) (K' : Ex → St → Option β), unOuts o q K' = K' ex S') ∧ Shaped F pin μ S w μ' S' ∧ Rg F μ' [] S' a w
  | [], K, h => by simp [packOuts] at h
  | [(e, s)], K, h => by
    simp only [packOuts] at h
    obtain ⟨h1, h2⟩ := cond_some h
    obtain ⟨p, μ', h3, h4, h5⟩ := pack_ok hr h2
    exact ⟨p, _, μ', h3, fun β K' => by rw [← eqEx_eq h1]; rfl, h4, h5⟩
  | (e, s) :: y :: o, K, h => by
    simp only [packOuts] at h
    cases he : eqEx e ex with
    | true =>
      simp only [he, cond_true] at h
      obtain ⟨p, μ', h3, h4, h5⟩ := pack_ok hr h
      exact ⟨.inl p, _, μ', h3, fun β K' => by rw [← eqEx_eq he]; rfl, h4, h5⟩
    | false =>
      simp only [he, cond_false] at h
      obtain ⟨q, S', μ', h3, h4, h5, h6⟩ := packOuts_ok hr (y :: o) h
      exact ⟨.inr q, S', μ', h3, fun β K' => h4 β K', h5, h6⟩

def strip : HT → HT
  | .join _ h => h
  | h => h

theorem joined_ok {C : Calling} {n : Nat} {c : Code} {h : HT} (hok : EvOK P C M pin n c (strip h)) : JOK P C M pin n c h := by
  intro S α K r he F μ w a hn hp hr
  cases h with
  | join o h =>
    simp only [joined] at he
    cases hq : (ev P C M pin n c h S fun ex S => packOuts pin S ex o some) with
    | none => simp [hq] at he
    | some q =>
      simp only [hq, Option.bind_some] at he
      refine wp_mono (hok S _ _ _ hq F μ w a hn hp hr) fun e a' w' ⟨ex, S', μ', av, h1, h2, h3⟩ => ?_
      obtain ⟨q', S2, μ2, h4, h5, h6, h7⟩ := packOuts_ok h3.rg o h2
      cases h4
      exact ⟨ex, S2, μ2, av, h1, by rw [← h5 α K]; exact he, (h3.weak (fun h => by cases h)).trans (CP.shaped h6 h7)⟩
  | _ => exact hok S α K r he F μ w a hn hp hr

/-- A loop, told of. -/
structure LoopRec where
  c : Code
  h : HT
  sh : Shape
  o : Outs
  run : sh.den → Option (outsDen o)

def LoopRec.OK (P : Program) (C : Calling) (M : FuncId → Bool) (pin n : Nat) (l : LoopRec) : Prop :=
  ∀ p r, l.run p = some r → ∃ m, iter (round P C M pin n l.c l.h l.sh l.o) m p = some r

/-- The loops of a piece of code. -/
def loopsIn : Code → HT → List LoopRec
  | .seq a b, h => loopsIn a (strip h.fst) ++ loopsIn b (strip h.snd)
  | .cond _ a b, h => loopsIn a (strip h.fst) ++ loopsIn b (strip h.snd)
  | .block _ c, h => loopsIn c (strip h.fst)
  | .scope c, h => loopsIn c (strip h.fst)
  | .loop c, .loop sh o run h => ⟨c, h, sh, o, run⟩ :: loopsIn c (strip h)
  | _, _ => []

theorem wp_loop_n {c : Code} {Q : Exit → Act → World → Prop} (I : Nat → Act → World → Prop) (h0 : ∀ a w, ¬ I 0 a w)
    (round : ∀ m a w, I (m + 1) a w → c.wp P (Exit.then (fun a' w' => I m a' w') Q) a w) (m : Nat) (h : I m a w) : (Code.loop c).wp P Q a w := by
  intro b k cs
  have key : ∀ m a w, I m a w → ∃ e a' w', Q e a' w' ∧ Arrives P (lone (b.at a (.code c :: .inLoop c :: k)) cs w) b k cs e a' w' := by
    intro m
    induction m with
    | zero => exact fun a w h => absurd h (h0 a w)
    | succ m ih =>
      intro a w hI
      obtain ⟨e, a₁, w₁, hq, harr⟩ := round m a w hI b (.inLoop c :: k) cs
      cases e with
      | normal =>
        obtain ⟨e₂, a₂, w₂, hq₂, harr₂⟩ := ih a₁ w₁ hq
        exact ⟨e₂, a₂, w₂, hq₂, .of_steps (Steps.trans harr (.one step_inLoop)) harr₂⟩
      | exit id => exact ⟨_, a₁, w₁, hq, .pass (x := .inLoop c) rfl (fun _ _ => .inl (by simp)) harr⟩
      | goto l => exact ⟨_, a₁, w₁, hq, .pass (x := .inLoop c) rfl (fun _ _ => .inl (by simp)) harr⟩
      | ret => exact ⟨_, a₁, w₁, hq, .pass (x := .inLoop c) rfl (fun _ _ => .inl (by simp)) harr⟩
      | panic ch => exact ⟨_, a₁, w₁, hq, .pass (x := .inLoop c) rfl (fun _ _ => .inl (by simp)) harr⟩
      | outgrown => exact ⟨_, a₁, w₁, hq, .pass (x := .inLoop c) rfl (fun _ _ => .inl (by simp)) harr⟩
  obtain ⟨e, a', w', hq, harr⟩ := key m a w h
  exact ⟨e, a', w', hq, .of_steps (.one step_loop) harr⟩

theorem leaf_fst {h : HT} (hl : isLeaf h = true) : isLeaf h.fst = true := by cases h <;> first | rfl | cases hl
theorem leaf_snd {h : HT} (hl : isLeaf h = true) : isLeaf h.snd = true := by cases h <;> first | rfl | cases hl

theorem ev_ok (hm : P.follows .mixedOrders = true) {C : Calling} (hC : CallOK P C M) {n : Nat} : ∀ (c : Code) (h : HT), (∀ x ∈ loopsIn c h, x.OK P C M pin n) → EvOK P C M pin n c h
  | .skip, h, _ => by
    intro S α K r he F μ w a hn hp hr
    simp only [ev] at he
    exact wp_skip ⟨.normal, S, μ, _, ⟨rfl, rfl⟩, he, CP.refl hr hp⟩
  | .exit id, h, _ => by
    intro S α K r he F μ w a hn hp hr
    simp only [ev] at he
    exact wp_exit ⟨.exit id, S, μ, _, ⟨rfl, rfl⟩, he, CP.refl hr hp⟩
  | .ret, h, _ => by
    intro S α K r he F μ w a hn hp hr
    simp only [ev] at he
    exact wp_ret ⟨.ret, S, μ, _, ⟨rfl, rfl⟩, he, CP.refl hr hp⟩
  | .region id ops draw, h, _ => by
    intro S α K r he F μ w a hn hp hr
    simp only [ev] at he
    cases hts : turnsOf P M ops draw with
    | none => simp [hts] at he
    | some ts =>
      simp only [hts] at he
      rw [hn] at he
      refine evRegion_ok hm hC hr hts he (fun c a1 a2 w1 hd h => ?_) (fun x S' w' a' val hK hpp => ?_) fun S' w' a' done' hK hpost => ?_
      · obtain ⟨ex, S', μ', av, h1, h2⟩ := h
        cases ex with
        | pan => exact ⟨.pan, S', μ', av, ⟨h1.1, hd.trans h1.2⟩, h2⟩
        | normal => exact absurd h1.1 (by simp [exOf])
        | exit id => exact absurd h1.1 (by simp [exOf])
        | ret => exact absurd h1.1 (by simp [exOf])
      · obtain ⟨h1, h2⟩ := cond_some hK
        obtain ⟨μ', hcp, hg⟩ := CP.of_ppost hp (Nat.le_of_ble_eq_true h1) hpp
        exact ⟨.pan, _, μ', _, ⟨by rw [hg], hpp.defers.trans (Act.put_defers' _ _ _).symm⟩, h2, hcp.weak fun _ => rfl⟩
      · obtain ⟨μ', hcp⟩ := CP.of_post hp hpost
        exact ⟨.normal, _, μ', _, ⟨rfl, rfl⟩, hK, hcp.weak fun _ => rfl⟩
  | .seq x y, h, hl => by
    intro S α K r he F μ w a hn hp hr
    simp only [ev] at he
    have hx := joined_ok (ev_ok hm hC x (strip h.fst) fun z hz => hl z (by simp [loopsIn, hz]))
    have hy := joined_ok (ev_ok hm hC y (strip h.snd) fun z hz => hl z (by simp [loopsIn, hz]))
    refine wp_seq (wp_mono (hx S α _ r he F μ w a hn hp hr) fun e a' w' ⟨ex, S', μ', av, h1, h2, h3⟩ => ?_)
    have h3' : CP (isLeaf h) F pin μ S w a μ' S' w' av := h3.weak leaf_fst
    cases ex with
    | normal =>
      obtain ⟨rfl, rfl⟩ := h1
      refine wp_mono (hy S' α K r h2 F μ' w' a' (hn.trans h3.size.symm) h3.le h3.rg) fun e2 a2 w2 ⟨ex2, S2, μ2, av2, g1, g2, g3⟩ => ?_
      exact ⟨ex2, S2, μ2, av2, g1, g2, h3'.trans (g3.weak leaf_snd)⟩
    | exit id => obtain ⟨rfl, rfl⟩ := h1; exact ⟨.exit id, S', μ', _, ⟨rfl, rfl⟩, h2, h3'⟩
    | ret => obtain ⟨rfl, rfl⟩ := h1; exact ⟨.ret, S', μ', _, ⟨rfl, rfl⟩, h2, h3'⟩
    | pan => obtain ⟨rfl, hd⟩ := h1; exact ⟨.pan, S', μ', _, ⟨rfl, hd⟩, h2, h3'⟩
  | .cond c x y, h, hl => by
    intro S α K r he F μ w a hn hp hr
    simp only [ev] at he
    have hx := joined_ok (ev_ok hm hC x (strip h.fst) fun z hz => hl z (by simp [loopsIn, hz]))
    have hy := joined_ok (ev_ok hm hC y (strip h.snd) fun z hz => hl z (by simp [loopsIn, hz]))
    have hX : joined pin h.fst (fun h => ev P C M pin n x h S) K = some r → x.wp P (fun e a' w' => ∃ ex S' μ' av, XR ex e a' av ∧ K ex S' = some r ∧ CP (isLeaf h) F pin μ S w a μ' S' w' av) a w := fun he =>
      wp_mono (hx S α K r he F μ w a hn hp hr) fun e a' w' ⟨ex, S', μ', av, h1, h2, h3⟩ => ⟨ex, S', μ', av, h1, h2, h3.weak leaf_fst⟩
    have hY : joined pin h.snd (fun h => ev P C M pin n y h S) K = some r → y.wp P (fun e a' w' => ∃ ex S' μ' av, XR ex e a' av ∧ K ex S' = some r ∧ CP (isLeaf h) F pin μ S w a μ' S' w' av) a w := fun he =>
      wp_mono (hy S α K r he F μ w a hn hp hr) fun e a' w' ⟨ex, S', μ', av, h1, h2, h3⟩ => ⟨ex, S', μ', av, h1, h2, h3.weak leaf_snd⟩
    have hc := (opd_ok hr.e c).rel
    cases hcv : opd S.E c <;> simp only [hcv, reduceCtorEq] at he hc
    case b q =>
      simp only [RelV] at hc
      cases q with
      | true => exact wp_cond_true hc (hX he)
      | false => exact wp_cond_false hc (hY he)
    case kb q =>
      simp only [RelV] at hc
      cases q with
      | true => exact wp_cond_true hc (hX he)
      | false => exact wp_cond_false hc (hY he)
  | .block id c, h, hl => by
    intro S α K r he F μ w a hn hp hr
    simp only [ev] at he
    have hx := joined_ok (ev_ok hm hC c (strip h.fst) fun z hz => hl z (by simp [loopsIn, hz]))
    refine wp_block (wp_mono (hx S α _ r he F μ w a hn hp hr) fun e a' w' ⟨ex, S', μ', av, h1, h2, h3⟩ => ?_)
    have h3' : CP (isLeaf h) F pin μ S w a μ' S' w' av := h3.weak leaf_fst
    cases ex with
    | normal => obtain ⟨rfl, rfl⟩ := h1; exact ⟨.normal, S', μ', _, ⟨rfl, rfl⟩, h2, h3'⟩
    | ret => obtain ⟨rfl, rfl⟩ := h1; exact ⟨.ret, S', μ', _, ⟨rfl, rfl⟩, h2, h3'⟩
    | pan => obtain ⟨rfl, hd⟩ := h1; exact ⟨.pan, S', μ', _, ⟨rfl, hd⟩, h2, h3'⟩
    | exit id' =>
      obtain ⟨rfl, rfl⟩ := h1
      simp only [exOf, Exit.inBlock]
      by_cases hid : id' = id
      · subst hid
        simp only [Nat.beq_refl, cond_true] at h2
        rw [if_pos rfl]
        exact ⟨.normal, S', μ', _, ⟨rfl, rfl⟩, h2, h3'⟩
      · simp only [beq_ne hid, cond_false] at h2
        rw [if_neg hid]
        exact ⟨.exit id', S', μ', _, ⟨rfl, rfl⟩, h2, h3'⟩
  | .loop c, h, hl => by
    intro S α K r he F μ w a hn hp hr
    cases h with
    | loop sh o run h =>
      simp only [ev] at he
      have hx := joined_ok (ev_ok hm hC c (strip h) fun z hz => hl z (by simp [loopsIn, hz]))
      have hlo := hl ⟨c, h, sh, o, run⟩ (by simp [loopsIn])
      obtain ⟨p, μ1, h1, h2, h3⟩ := pack_ok hr he
      cases hrun : run p with
      | none => simp [hrun] at h1
      | some q =>
        simp only [hrun, Option.bind_some] at h1
        obtain ⟨m, hm1⟩ := hlo p q hrun
        refine wp_loop_n (fun m a' w' => ∃ p μ', iter (round P C M pin n c h sh o) m p = some q ∧ CP false F pin μ S w a μ' (unpack sh p) w' a') (fun a w ⟨p, _, hi, _⟩ => by simp [iter] at hi) (fun m a' w' ⟨p, μ', hi, hcp⟩ => ?_) m ⟨p, μ1, hm1, CP.shaped h2 h3⟩
        simp only [iter] at hi
        cases hro : round P C M pin n c h sh o p with
        | none => simp [hro] at hi
        | some z =>
          refine wp_mono (hx (unpack sh p) _ _ z hro F μ' w' a' (hn.trans hcp.size.symm) hcp.le hcp.rg) fun e a2 w2 ⟨ex, S2, μ2, av, g1, g2, g3⟩ => ?_
          have g4 : CP false F pin μ S w a μ2 S2 w2 av := hcp.trans (g3.weak fun h => by cases h)
          have out : ∀ {ex}, XR ex e a2 av → (packOuts pin S2 ex o fun r => some (Sum.inr r)) = some z → ∃ ex' S' μ' av', XR ex' e a2 av' ∧ K ex' S' = some r ∧ CP (isLeaf (.loop sh o run h)) F pin μ S w a μ' S' w2 av' := fun {ex} g1 hpo => by
            obtain ⟨q', S', μ3, k1, k2, k3, k4⟩ := packOuts_ok g3.rg o hpo
            simp only [Option.some.injEq] at k1
            rw [hro, ← k1] at hi
            simp only [Option.some.injEq] at hi
            subst hi
            exact ⟨ex, S', μ3, av, g1, by rw [← k2 α K]; exact h1, g4.trans (CP.shaped k3 k4)⟩
          cases ex with
          | normal =>
            obtain ⟨rfl, rfl⟩ := g1
            obtain ⟨p', μ3, k1, k2, k3⟩ := pack_ok g3.rg g2
            simp only [Option.some.injEq] at k1
            rw [hro, ← k1] at hi
            exact ⟨p', μ3, hi, g4.trans (CP.shaped k2 k3)⟩
          | exit id => have g5 := g1; obtain ⟨rfl, rfl⟩ := g1; exact out g5 g2
          | ret => have g5 := g1; obtain ⟨rfl, rfl⟩ := g1; exact out g5 g2
          | pan => have g5 := g1; obtain ⟨rfl, hd⟩ := g1; exact out g5 g2
    | _ => simp [ev] at he
  | .label _, h, _ => by
    intro S α K r he F μ w a hn hp hr
    simp only [ev] at he
    exact wp_label ⟨.normal, S, μ, _, ⟨rfl, rfl⟩, he, CP.refl hr hp⟩
  | .goto _, h, _ => by intro S α K r he; simp [ev] at he
  | .scope c, h, hl => by
    intro S α K r he F μ w a hn hp hr
    simp only [ev] at he
    have hx := joined_ok (ev_ok hm hC c (strip h.fst) fun z hz => hl z (by simp [loopsIn, hz]))
    refine wp_scope_straight (wp_mono (hx S α _ r he F μ w a hn hp hr) fun e a' w' ⟨ex, S', μ', av, h1, h2, h3⟩ => ?_)
    have h3' : CP (isLeaf h) F pin μ S w a μ' S' w' av := h3.weak leaf_fst
    cases ex with
    | normal => obtain ⟨rfl, rfl⟩ := h1; exact ⟨.normal, S', μ', _, ⟨rfl, rfl⟩, h2, h3'⟩
    | ret => obtain ⟨rfl, rfl⟩ := h1; exact ⟨.ret, S', μ', _, ⟨rfl, rfl⟩, h2, h3'⟩
    | exit id' => obtain ⟨rfl, rfl⟩ := h1; exact ⟨.exit id', S', μ', _, ⟨rfl, rfl⟩, h2, h3'⟩
    | pan => obtain ⟨rfl, hd⟩ := h1; exact ⟨.pan, S', μ', _, ⟨rfl, hd⟩, h2, h3'⟩
  | .rangeFunc _ _ _ _, h, _ => by intro S α K r he; simp [ev] at he
  | .refuse _, h, _ => by intro S α K r he; simp [ev] at he

end
end Go.Ev
