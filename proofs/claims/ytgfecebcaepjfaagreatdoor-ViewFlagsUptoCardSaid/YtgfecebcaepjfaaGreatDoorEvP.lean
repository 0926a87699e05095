/- States put into shapes: blocks, slots, the whole. -/
import Derived.Test.YtgfecebcaepjfaaGreatDoorEvO
namespace Go.Ev
open Go
section
variable {T : Tb} {F F' : Frm T} {μ : Nat → Option Nat} {H : Nat → Blk} {nx : Nat} {w : World} {α : Type} {r : α} {pin : Nat} {bl : List (Nat × BSh)}

theorem pinned {j b : Nat} (h : (Nat.ble pin j || Nat.beq b j) = true) : j < pin → b = j := fun hj => by
  rw [Bool.or_eq_true] at h
  rcases h with h | h
  · have := Nat.le_of_ble_eq_true h; omega
  · exact Nat.eq_of_beq_eq_true h

theorem bindB_ext {B : Bd} {j : Nat} {b : Option Nat} {K : Bd → Option α} (h : bindB B j b K = some r) : ∃ B', K B' = some r ∧ Ext B B' := by
  obtain ⟨B', h1, h2, _⟩ := bindB_ok h
  exact ⟨B', h1, h2⟩

theorem nilV_ok : ∀ (v : VSh) {B : Bd} {K : v.den → Bd → Option α}, nilV v B K = some r → ∃ q B', K q B' = some r ∧ Ext B B'
  | .i _, B, K, h => ⟨_, B, h, Ext.refl B⟩
  | .u, B, K, h => ⟨_, B, h, Ext.refl B⟩
  | .b, B, K, h => ⟨_, B, h, Ext.refl B⟩
  | .s, B, K, h => ⟨_, B, h, Ext.refl B⟩
  | .sl _, B, K, h => ⟨_, B, h, Ext.refl B⟩
  | .ptr _ _, B, K, h => by obtain ⟨B', h1, h2⟩ := bindB_ext h; exact ⟨(), B', h1, h2⟩
  | .own _, B, K, h => by obtain ⟨B', h1, h2⟩ := bindB_ext h; exact ⟨(), B', h1, h2⟩
  | .win _, B, K, h => by obtain ⟨B', h1, h2⟩ := bindB_ext h; exact ⟨(0, 0), B', h1, h2⟩
  | .mp _, B, K, h => by obtain ⟨B', h1, h2⟩ := bindB_ext h; exact ⟨(), B', h1, h2⟩
  | .mptr _ _, B, K, h => by obtain ⟨B', h1, h2⟩ := bindB_ext h; exact ⟨false, B', h1, h2⟩
  | .fn _ c, B, K, h => nilV_ok c h
  | .agg c, B, K, h => nilV_ok c h
  | .tup c, B, K, h => nilV_ok c h
  | .ifc _ c, B, K, h => nilV_ok c h
  | .may c _, B, K, h => by
    obtain ⟨q, B', h1, h2⟩ := nilV_ok c h
    exact ⟨Sum.inl q, B', h1, h2⟩
  | .nil, B, K, h => ⟨_, B, h, Ext.refl B⟩
  | .cons v w, B, K, h => by
    obtain ⟨p, B1, h1, e1⟩ := nilV_ok v h
    obtain ⟨q, B2, h2, e2⟩ := nilV_ok w h1
    exact ⟨(p, q), B2, h2, e1.trans e2⟩
  | .nilp, B, K, h => ⟨_, B, h, Ext.refl B⟩
  | .bad, B, K, h => ⟨_, B, h, Ext.refl B⟩
  | .kb _, B, K, h => ⟨_, B, h, Ext.refl B⟩
  | .ki _ _, B, K, h => ⟨_, B, h, Ext.refl B⟩
  | .ks _, B, K, h => ⟨_, B, h, Ext.refl B⟩

theorem packSl_cps {t : Ty} {x : AV} {B : Bd} {K : List t.den → Bd → Option α} (h : packSl H t x B K = some r) : ∃ q B', K q B' = some r ∧ Ext B B' := by
  have zext : ∀ b, Ext B ⟨B.m, b :: B.z⟩ := fun b => ⟨fun _ _ h => h, fun _ h => List.mem_cons_of_mem _ h⟩
  unfold packSl at h
  split at h
  · obtain ⟨l, hl⟩ := items_cps h; exact ⟨l, _, hl, zext _⟩
  · obtain ⟨l, hl⟩ := items_cps h; exact ⟨l, _, hl, zext _⟩
  · obtain ⟨l, hl⟩ := items_cps h; exact ⟨l, _, hl, Ext.refl B⟩

mutual
theorem packV_cps : ∀ (v : VSh) {x : AV} {B : Bd} {K : v.den → Bd → Option α}, packV H v x B K = some r → ∃ q B', K q B' = some r ∧ Ext B B'
  | .i k, x, B, K, h => by
    cases x <;> simp only [packV, reduceCtorEq] at h
    exact ⟨_, B, (cond_some h).2, Ext.refl B⟩
  | .u, x, B, K, h => by
    cases x <;> simp only [packV, reduceCtorEq] at h
    exact ⟨_, B, h, Ext.refl B⟩
  | .b, x, B, K, h => by
    cases x <;> simp only [packV, reduceCtorEq] at h
    · exact ⟨_, B, h, Ext.refl B⟩
    · exact ⟨_, B, h, Ext.refl B⟩
  | .s, x, B, K, h => by
    cases x <;> simp only [packV, reduceCtorEq] at h
    exact ⟨_, B, h, Ext.refl B⟩
  | .sl t, x, B, K, h => by
    simp only [packV] at h
    exact packSl_cps h
  | .ptr j o, x, B, K, h => by
    cases x <;> simp only [packV, reduceCtorEq] at h
    obtain ⟨B', h1, h2⟩ := bindB_ext (cond_some h).2
    exact ⟨(), B', h1, h2⟩
  | .own j, x, B, K, h => by
    simp only [packV] at h
    cases x <;> simp only [packOwn, reduceCtorEq] at h
    · obtain ⟨B', h1, h2⟩ := bindB_ext (cond_some h).2; exact ⟨(), B', h1, h2⟩
    · obtain ⟨B', h1, h2⟩ := bindB_ext h; exact ⟨(), B', h1, h2⟩
  | .win j, x, B, K, h => by
    simp only [packV] at h
    cases x <;> simp only [packWin, reduceCtorEq] at h
    · split at h
      · obtain ⟨B', h1, h2⟩ := bindB_ext h; exact ⟨_, B', h1, h2⟩
      · cases h
    · obtain ⟨B', h1, h2⟩ := bindB_ext h; exact ⟨_, B', h1, h2⟩
  | .mp j, x, B, K, h => by
    cases x <;> simp only [packV, reduceCtorEq] at h
    obtain ⟨B', h1, h2⟩ := bindB_ext h
    exact ⟨(), B', h1, h2⟩
  | .mptr j o, x, B, K, h => by
    simp only [packV] at h
    cases x <;> simp only [packMp, reduceCtorEq] at h
    · obtain ⟨B', h1, h2⟩ := bindB_ext (cond_some h).2; exact ⟨_, B', h1, h2⟩
    · obtain ⟨B', h1, h2⟩ := bindB_ext (cond_some h).2; exact ⟨_, B', h1, h2⟩
    · obtain ⟨B', h1, h2⟩ := bindB_ext (cond_some h).2; exact ⟨_, B', h1, h2⟩
  | .fn f cs, x, B, K, h => by
    cases x <;> simp only [packV, reduceCtorEq] at h
    exact packL_cps cs (cond_some h).2
  | .agg cs, x, B, K, h => by
    cases x <;> simp only [packV, reduceCtorEq] at h
    exact packL_cps cs h
  | .tup cs, x, B, K, h => by
    cases x <;> simp only [packV, reduceCtorEq] at h
    exact packL_cps cs h
  | .ifc t v, x, B, K, h => by
    cases x <;> simp only [packV, reduceCtorEq] at h
    exact packV_cps v (cond_some h).2
  | .may _ _, x, B, K, h => by cases x <;> simp [packV] at h
  | .nil, x, B, K, h => by cases x <;> simp [packV] at h
  | .cons _ _, x, B, K, h => by cases x <;> simp [packV] at h
  | .nilp, x, B, K, h => by
    cases x <;> simp only [packV, reduceCtorEq] at h
    exact ⟨_, B, (cond_some h).2, Ext.refl B⟩
  | .bad, x, B, K, h => by
    refine ⟨(), B, ?_, Ext.refl B⟩
    cases x <;> exact h
  | .kb y, x, B, K, h => by
    cases x <;> simp only [packV, reduceCtorEq] at h
    exact ⟨_, B, (cond_some h).2, Ext.refl B⟩
  | .ki k n, x, B, K, h => by
    cases x <;> simp only [packV, reduceCtorEq] at h
    exact ⟨_, B, (cond_some h).2, Ext.refl B⟩
  | .ks l, x, B, K, h => by
    cases x <;> simp only [packV, reduceCtorEq] at h
    exact ⟨_, B, (cond_some h).2, Ext.refl B⟩
theorem packL_cps : ∀ (v : VSh) {x : List AV} {B : Bd} {K : v.den → Bd → Option α}, packL H v x B K = some r → ∃ q B', K q B' = some r ∧ Ext B B'
  | .nil, [], B, K, h => ⟨(), B, by simpa only [packL] using h, Ext.refl B⟩
  | .cons v v2, x :: xs, B, K, h => by
    simp only [packL] at h
    obtain ⟨p, B1, h1, e1⟩ := packV_cps v h
    obtain ⟨q, B2, h2, e2⟩ := packL_cps v2 h1
    exact ⟨(p, q), B2, h2, e1.trans e2⟩
  | .nil, _ :: _, B, K, h => by simp [packL] at h
  | .cons _ _, [], B, K, h => by simp [packL] at h
  | .i _, x, B, K, h => by cases x <;> simp [packL] at h
  | .u, x, B, K, h => by cases x <;> simp [packL] at h
  | .b, x, B, K, h => by cases x <;> simp [packL] at h
  | .s, x, B, K, h => by cases x <;> simp [packL] at h
  | .sl _, x, B, K, h => by cases x <;> simp [packL] at h
  | .ptr _ _, x, B, K, h => by cases x <;> simp [packL] at h
  | .own _, x, B, K, h => by cases x <;> simp [packL] at h
  | .win _, x, B, K, h => by cases x <;> simp [packL] at h
  | .mp _, x, B, K, h => by cases x <;> simp [packL] at h
  | .mptr _ _, x, B, K, h => by cases x <;> simp [packL] at h
  | .fn _ _, x, B, K, h => by cases x <;> simp [packL] at h
  | .agg _, x, B, K, h => by cases x <;> simp [packL] at h
  | .tup _, x, B, K, h => by cases x <;> simp [packL] at h
  | .nilp, x, B, K, h => by cases x <;> simp [packL] at h
  | .bad, x, B, K, h => by cases x <;> simp [packL] at h
  | .kb _, x, B, K, h => by cases x <;> simp [packL] at h
  | .ki _ _, x, B, K, h => by cases x <;> simp [packL] at h
  | .ks _, x, B, K, h => by cases x <;> simp [packL] at h
end

theorem packBlk_ok (hp : Hp F μ H nx w) {j : Nat} : ∀ (s : BSh) {B : Bd} {K : s.den → Bd → Option α}, packBlk pin H j s B K = some r →
    ∃ q B', K q B' = some r ∧ Ext B B' ∧ From pin H B' j (unB s q) ∧ ∀ (F' : Frm T) Bf H', Ext B' Bf → Fin F F' μ pin H bl Bf H' → bshOK bl s = true → RelB w (Not F' (muB μ Bf) H') (muB μ Bf) H' j (unB s q)
  | .vars cs, B, K, h => by
    simp only [packBlk] at h
    cases hf : findB B.m j with
    | none => simp [hf] at h
    | some o =>
      cases o with
      | none =>
        simp only [hf] at h
        obtain ⟨h1, h2⟩ := cond_some h
        obtain ⟨q, B', hK, he⟩ := nilV_ok cs h2
        have hf' := he.m j _ hf
        refine ⟨q, B', hK, he, ?_, fun F' Bf H' he' hfin hok => ?_⟩
        · unfold From
          rw [hf']
          exact ⟨Nat.le_of_ble_eq_true h1, .inr (.inl ⟨_, rfl⟩)⟩
        · simp only [unB, RelB]
          refine .inl ?_
          unfold muB
          rw [he'.m j _ hf']
      | some b =>
        simp only [hf] at h
        obtain ⟨h1, h2⟩ := cond_some h
        cases hb : H b <;> simp only [hb, reduceCtorEq] at h2
        rename_i l
        have hB := hp.blk b
        simp only [hb, RelB] at hB
        rcases hB with hB | ⟨g, vs, hg, hvs, hrow, hroom⟩
        · obtain ⟨q, B', hK, he⟩ := packL_cps cs h2
          have hf' := he.m j _ hf
          refine ⟨q, B', hK, he, ?_, fun F' Bf H' he' hfin hok => ?_⟩
          · unfold From
            rw [hf']
            exact ⟨by simp [hb], by simp [hb], pinned h1, fun _ => by rw [hb]; rfl⟩
          · simp only [unB, RelB]
            exact .inl (by rw [muB_of he' hf']; exact hB)
        obtain ⟨q, B', hK, he, hh⟩ := packL_ok (pin := pin) (bl := bl) hp cs l B K vs hvs h2
        have hf' := he.m j _ hf
        refine ⟨q, B', hK, he, ?_, fun F' Bf H' he' hfin hok => ?_⟩
        · unfold From
          rw [hf']
          exact ⟨by simp [hb], by simp [hb], pinned h1, fun _ => by rw [hb]; rfl⟩
        · simp only [unB, RelB]
          exact .inr ⟨g, vs, by rw [muB_of he' hf']; exact hg, hh F' Bf H' he' hfin hok, hrow, hroom⟩
  | .data t, B, K, h => by
    simp only [packBlk] at h
    cases hf : findB B.m j with
    | none => simp [hf] at h
    | some o =>
      cases o with
      | none =>
        simp only [hf] at h
        obtain ⟨h1, h2⟩ := cond_some h
        refine ⟨[], B, h2, Ext.refl B, ?_, fun F' Bf H' he' hfin hok => ?_⟩
        · unfold From
          rw [hf]
          exact ⟨Nat.le_of_ble_eq_true h1, .inl ⟨t, rfl⟩⟩
        · simp only [unB, RelB]
          refine .inl ⟨?_, trivial⟩
          unfold muB
          rw [he'.m j _ hf]
      | some b =>
        simp only [hf] at h
        obtain ⟨h1, h2⟩ := cond_some h
        cases hb : H b <;> simp only [hb, reduceCtorEq] at h2
        rename_i t' l
        split at h2
        · rename_i ht
          subst ht
          have hB := hp.blk b
          simp only [hb, RelB] at hB
          refine ⟨l, B, h2, Ext.refl B, ?_, fun F' Bf H' he' hfin hok => ?_⟩
          · unfold From
            rw [hf]
            refine ⟨by simp [hb], fun t2 l2 h2 => by rw [hb] at h2; cases h2; rfl, pinned h1, fun ht => absurd rfl ht⟩
          · simp only [unB, RelB]
            rw [muB_of he' hf]
            rcases hB with hB | ⟨g, g1, g2, g3⟩
            · exact .inl hB
            · refine .inr ⟨g, g1, g2, fun i hi => ?_⟩
              obtain ⟨es, e1, e2, e3⟩ := g3 i hi
              exact ⟨es, e1, e2, e3.keep (keepRefl w) fun _ _ => hfin.not⟩
        · cases h2
  | .iter, B, K, h => by
    simp only [packBlk] at h
    cases hf : findB B.m j with
    | none => simp [hf] at h
    | some o =>
      cases o with
      | none => simp [hf] at h
      | some b =>
        simp only [hf] at h
        obtain ⟨h1, h2⟩ := cond_some h
        cases hb : H b <;> simp only [hb, reduceCtorEq] at h2
        rename_i s pos
        have hB := hp.blk b
        simp only [hb, RelB] at hB
        refine ⟨(s, pos), B, h2, Ext.refl B, ?_, fun F' Bf H' he' hfin hok => ?_⟩
        · unfold From
          rw [hf]
          exact ⟨by simp [hb], by simp [hb], pinned h1, fun ht => absurd rfl ht⟩
        · simp only [unB, RelB]
          rw [muB_of he' hf]
          exact hB
  | .mapd kt vt ag, B, K, h => by
    simp only [packBlk] at h
    cases hf : findB B.m j with
    | none => simp [hf] at h
    | some o =>
      cases o with
      | none =>
        simp only [hf] at h
        obtain ⟨h1, h2⟩ := cond_some h
        refine ⟨[], B, h2, Ext.refl B, ?_, fun F' Bf H' he' hfin hok => ?_⟩
        · unfold From
          rw [hf]
          exact ⟨Nat.le_of_ble_eq_true h1, .inr (.inr ⟨_, _, _, _, rfl⟩)⟩
        · simp only [unB, RelB]
          refine .inl ?_
          unfold muB
          rw [he'.m j _ hf]
      | some b =>
        simp only [hf] at h
        obtain ⟨h1, h2⟩ := cond_some h
        cases hb : H b <;> simp only [hb, reduceCtorEq] at h2
        rename_i kt' vt' ag' l
        split at h2
        · rename_i e1
          split at h2
          · rename_i e2
            subst e1
            subst e2
            obtain ⟨h3, h4⟩ := cond_some h2
            have := eq_of_beq h3
            subst this
            have hB := hp.blk b
            simp only [hb, RelB] at hB
            refine ⟨l, B, h4, Ext.refl B, ?_, fun F' Bf H' he' hfin hok => ?_⟩
            · unfold From
              rw [hf]
              exact ⟨by simp [hb], by simp [hb], pinned h1, fun _ => by rw [hb]; rfl⟩
            · simp only [unB, RelB]
              rw [muB_of he' hf]
              rcases hB with hB | ⟨g, es, c, g1, g2, g3, g4⟩
              · exact .inl hB
              exact .inr ⟨g, es, c, g1, g2, g3, g4.keep (keepRefl w) fun _ _ => hfin.not⟩
          · cases h2
        · cases h2

theorem beq_ne {j k : Nat} (h : j ≠ k) : Nat.beq j k = false := Bool.eq_false_iff.2 fun e => h (Nat.eq_of_beq_eq_true e)

theorem packBlks_ok (hp : Hp F μ H nx w) : ∀ (l : List (Nat × BSh)) {B : Bd} {K : blksDen l → Bd → Option α}, packBlks pin H l B K = some r →
    ∃ q B', K q B' = some r ∧ Ext B B' ∧ (∀ j, unBlks l q j ≠ .dead → From pin H B' j (unBlks l q j)) ∧ (∀ j s, kindIn l j = some s → Kin s (unBlks l q j)) ∧ (∀ j, unBlks l q j ≠ .dead → ∃ p ∈ l, p.1 = j) ∧
      ∀ (F' : Frm T) Bf H', Ext B' Bf → Fin F F' μ pin H bl Bf H' → (l.all fun p => bshOK bl p.2) = true → ∀ j, RelB w (Not F' (muB μ Bf) H') (muB μ Bf) H' j (unBlks l q j)
  | [], B, K, h => by
    simp only [packBlks] at h
    exact ⟨(), B, h, Ext.refl B, fun j hj => absurd rfl hj, fun j s hs => by simp [kindIn] at hs, fun j hj => absurd rfl hj, fun _ _ _ _ _ _ _ => by simp [unBlks, RelB]⟩
  | (j0, s0) :: l, B, K, h => by
    simp only [packBlks] at h
    obtain ⟨p, B1, hK1, he1, hf1, hr1⟩ := packBlk_ok (bl := bl) hp s0 h
    obtain ⟨q, B2, hK2, he2, hf2, hk2, hm2, hr2⟩ := packBlks_ok hp l hK1
    refine ⟨(p, q), B2, hK2, he1.trans he2, fun j hj => ?_, fun j s hs => ?_, fun j hj => ?_, fun F' Bf H' he hfin hall j => ?_⟩
    · simp only [unBlks] at hj ⊢
      by_cases hjj : j = j0
      · subst hjj; rw [updH_same]; exact hf1.ext he2
      · rw [updH_other hjj] at hj ⊢; exact hf2 j hj
    · simp only [kindIn] at hs
      simp only [unBlks]
      by_cases hjj : j = j0
      · subst hjj
        rw [updH_same]
        simp only [Nat.beq_refl, cond_true, Option.some.injEq] at hs
        subst hs
        exact unB_kin _ _
      · rw [updH_other hjj]
        simp only [beq_ne (Ne.symm hjj), cond_false] at hs
        exact hk2 j s hs
    · simp only [unBlks] at hj
      by_cases hjj : j = j0
      · exact ⟨_, List.mem_cons_self, hjj.symm⟩
      · rw [updH_other hjj] at hj
        obtain ⟨p, hp, e⟩ := hm2 j hj
        exact ⟨p, List.mem_cons_of_mem _ hp, e⟩
    · simp only [List.all_cons, Bool.and_eq_true] at hall
      simp only [unBlks]
      by_cases hjj : j = j0
      · subst hjj; rw [updH_same]; exact hr1 F' Bf H' (he2.trans he) hfin hall.1
      · rw [updH_other hjj]; exact hr2 F' Bf H' he hfin hall.2 j

theorem unV_noGd : ∀ (v : VSh) (p : v.den), ∀ j b x, unV v p ≠ .gd j b x := by
  intro v
  induction v with
  | may v w h1 h2 =>
    intro p j b x
    show (match (p : v.den ⊕ w.den) with
      | .inl p => unV v p
      | .inr p => .pan (unV w p)) ≠ _
    cases (show v.den ⊕ w.den from p) with
    | inl p => exact h1 p j b x
    | inr p => simp
  | _ => intro p j b x; simp [unV]

theorem packSlots_ok {S : St} {tmps : Array Value} (hp : Hp F μ S.H nx w) (hE : ∀ t, RelV w (Not F μ S.H) μ S.H (S.E t) (tmps.getD t undef)) : ∀ (l : List (Nat × VSh)) {B : Bd} {K : slotsDen l → Bd → Option α}, packSlots S l B K = some r →
    ∃ q B', K q B' = some r ∧ Ext B B' ∧ ∀ (F' : Frm T) Bf H', Ext B' Bf → Fin F F' μ pin S.H bl Bf H' → (l.all fun p => refsOK bl p.2) = true → ∀ t, RelV w (Not F' (muB μ Bf) H') (muB μ Bf) H' (unSlots l q t) (tmps.getD t undef) ∧ ∀ j b x, unSlots l q t ≠ .gd j b x
  | [], B, K, h => by
    simp only [packSlots] at h
    exact ⟨(), B, h, Ext.refl B, fun _ _ _ _ _ _ _ => by simp [unSlots, RelV]⟩
  | (t0, v) :: l, B, K, h => by
    simp only [packSlots] at h
    obtain ⟨p, B1, hK1, he1, hr1⟩ := packV_ok (pin := pin) (bl := bl) hp v _ B _ _ (hE t0) h
    obtain ⟨q, B2, hK2, he2, hr2⟩ := packSlots_ok hp hE l hK1
    refine ⟨(p, q), B2, hK2, he1.trans he2, fun F' Bf H' he hfin hall t => ?_⟩
    simp only [List.all_cons, Bool.and_eq_true] at hall
    simp only [unSlots]
    by_cases htt : t = t0
    · subst htt; rw [upd_same]; exact ⟨hr1 F' Bf H' (he2.trans he) hfin hall.1, unV_noGd v p⟩
    · rw [upd_other htt]; exact hr2 F' Bf H' he hfin hall.2 t

/-- The new heap, held against the world. -/
theorem Fin.hp {B : Bd} {H' : Nat → Blk} {nx' : Nat} (hp : Hp F μ H nx w) (hfin : Fin F F' μ pin H bl B H') (hb : ∀ j, RelB w (Not F' (muB μ B) H') (muB μ B) H' j (H' j)) (hd : ∀ j, nx' ≤ j → H' j = .dead)
    (far : ∀ j b g, H' j ≠ .dead → findB B.m j = some (some b) → H b ≠ .dead → μ b = some g → ¬ F' g) (flt : ∀ g, F' g → g < w.heap.size) : Hp F' (muB μ B) H' nx' w where
  blk := hb
  lt := fun j g hl hg => by
    obtain ⟨b, h1, h2⟩ := hfin.trk ⟨j, hl, hg⟩
    exact hp.lt b g h1 h2
  inj := fun j j' g hl hl' hg hg' => by
    have key : ∀ k, H' k ≠ .dead → muB μ B k = some g → ∃ b, findB B.m k = some (some b) ∧ H b ≠ .dead ∧ μ b = some g := fun k hk hm => by
      have h3 := hfin.src k hk
      unfold From at h3
      unfold muB at hm
      cases hf : findB B.m k with
      | none => simp [hf] at hm
      | some o =>
        cases o with
        | none => simp [hf] at hm
        | some b => simp only [hf] at hm h3; exact ⟨b, rfl, h3.1, hm⟩
    obtain ⟨b, b1, b2, b3⟩ := key j hl hg
    obtain ⟨c, c1, c2, c3⟩ := key j' hl' hg'
    have := hp.inj b c g b2 c2 b3 c3
    subst this
    exact Bd.ok_inj hfin.ok b1 c1
  dead := hd
  apart := fun j g hl hg => by
    have h3 := hfin.src j hl
    unfold From at h3
    unfold muB at hg
    cases hf : findB B.m j with
    | none => simp [hf] at hg
    | some o =>
      cases o with
      | none => simp [hf] at hg
      | some b => simp only [hf] at hg h3; exact far j b g hl hf h3.1 hg
  flt := flt
  tab := hp.tab
  tapart := fun j g hl hg => by
    obtain ⟨b, h1, h2⟩ := hfin.trk ⟨j, hl, hg⟩
    exact hp.tapart b g h1 h2

theorem Fin.pinned {B : Bd} {H' : Nat → Blk} (hfin : Fin F F' μ pin H bl B H') : ∀ j, j < pin → Pin (H' j) (H j) (muB μ B j) (μ j) := by
  intro j hj ht
  have h3 := hfin.src j (fun h => ht (by rw [h]; rfl))
  unfold From at h3
  unfold muB
  cases hf : findB B.m j with
  | none => simp [hf] at h3
  | some o =>
    cases o with
    | none => simp only [hf] at h3; omega
    | some b =>
      simp only [hf] at h3 ⊢
      obtain ⟨_, _, h4, h5⟩ := h3
      have := h4 hj
      subst this
      exact ⟨h5 ht, rfl⟩

/-- What a turn of the state's shape leaves. -/
structure Shaped {T : Tb} (F : Frm T) (pin : Nat) (μ : Nat → Option Nat) (S : St) (w : World) (μ' : Nat → Option Nat) (S' : St) : Prop where
  hp : Hp F μ' S'.H S'.nx w
  trk : ∀ g, Trk μ' S'.H g → Trk μ S.H g
  pinned : ∀ j, j < pin → Pin (S'.H j) (S.H j) (μ' j) (μ j)
  le : pin ≤ S'.nx

theorem pack_ok {S : St} {a : Act} {sh : Shape} {K : sh.den → Option α} (hr : Rg F μ [] S a w) (h : pack pin sh S K = some r) :
    ∃ p μ', K p = some r ∧ Shaped F pin μ S w μ' (unpack sh p) ∧ Rg F μ' [] (unpack sh p) a w := by
  unfold pack at h
  obtain ⟨hok, h1⟩ := cond_some h
  simp only [shapeOK, Bool.and_eq_true] at hok
  obtain ⟨⟨hpin, hslots⟩, hblks⟩ := hok
  have hE : ∀ t, RelV w (Not F μ S.H) μ S.H (S.E t) (a.tmps.getD t undef) := fun t => by
    have := hr.e t
    cases hE : S.E t <;> simp only [hE] at this ⊢ <;> first | exact this | simp [RelV]
  obtain ⟨p, B1, hK1, he1, hr1⟩ := packSlots_ok (pin := pin) (bl := sh.blks) hr.hp hE sh.slots h1
  obtain ⟨q, B2, hK2, he2, hf2, hk2, hm2, hr2⟩ := packBlks_ok (bl := sh.blks) hr.hp sh.blks hK1
  obtain ⟨hB, hK3⟩ := cond_some hK2
  have hfin : Fin F F μ pin S.H sh.blks B2 (unBlks sh.blks q) := ⟨hB, hf2, hk2, fun _ h => .inl h, fun b g _ hl hm => hr.hp.apart b g hl hm⟩
  have hall : (sh.blks.all fun p => bshOK sh.blks p.2) = true := by
    simp only [blksOK, List.all_eq_true, Bool.and_eq_true] at hblks ⊢
    exact fun p hp => (hblks p hp).2
  have hhp : Hp F (muB μ B2) (unBlks sh.blks q) sh.nx w := hfin.hp hr.hp (fun j => hr2 F B2 _ (Ext.refl B2) hfin hall j) (fun j hj => by
    cases hd : unBlks sh.blks q j with
    | dead => rfl
    | _ =>
      all_goals
        obtain ⟨p, hp, e⟩ := hm2 j (by simp [hd])
        simp only [blksOK, List.all_eq_true, Bool.and_eq_true] at hblks
        have := Nat.le_of_ble_eq_true (hblks p hp).1
        omega) (fun _ b g _ _ hl hm => hr.hp.apart b g hl hm) hr.hp.flt
  have hrel := fun t => hr1 F B2 (unBlks sh.blks q) he2 hfin hslots t
  refine ⟨(p, q), muB μ B2, hK3, ⟨hhp, fun g => hfin.trk, hfin.pinned, Nat.le_of_ble_eq_true hpin⟩, hhp, fun t => ?_, fun t j b x hE => absurd hE ((hrel t).2 j b x)⟩
  obtain ⟨h1, h2⟩ := hrel t
  show (match unSlots sh.slots p t with
    | .gd j b x => _
    | x => RelV w _ _ _ x (a.tmps.getD t undef))
  cases hu : unSlots sh.slots p t <;> rw [hu] at h1 h2 <;> first | exact h1 | exact absurd rfl (h2 _ _ _)

end
end Go.Ev
