/- What is known of functions. -/
import Derived.Test.YtgfecebcaepjfaaGreatDoorEvR
namespace Go.Ev
open Go
section
variable {P : Program} {F F' : Frm (tabsOf P)} {μ μ' μ'' : Nat → Option Nat} {S S' : St} {w w' : World} {α : Type} {r : α} {M : FuncId → Bool} {N N' : Nat → Prop} {H H' : Nat → Blk}

def Enters (P : Program) (f : FuncId) : Prop := ∀ (args : Array Value) w, (callFunc f args).run P w = .ok (.enter f args) w

/-- What is known of a function holds. -/
structure Orc.OK (P : Program) (f : FuncId) (o : Orc) : Prop where
  enters : Enters P f
  fits : o.fits = true
  run : ∀ p r, o.run p = some r → ∀ (F : Frm (tabsOf P)) μ w vals, Hp F μ (unBlks o.blks p.2) o.blks.length w → RelVs w (Not F μ (unBlks o.blks p.2)) μ (unBlks o.blks p.2) (unL o.args p.1) vals →
    Calls P f vals.toArray w (fun e w' => ∃ val μ' nx', EndR e (unV o.out r.1) val ∧ Hp F μ' (unBlks o.oblks r.2) nx' w' ∧ RelV w' (Not F μ' (unBlks o.oblks r.2)) μ' (unBlks o.oblks r.2) (unV o.out r.1) val ∧
      Chg (Trk μ (unBlks o.blks p.2)) w w' ∧ (∀ g, Trk μ' (unBlks o.oblks r.2) g → Trk μ (unBlks o.blks p.2) g ∨ w.heap.size ≤ g) ∧
      (∀ j, j < o.blks.length → Pin (unBlks o.oblks r.2 j) (unBlks o.blks p.2 j) (μ' j) (μ j)))

/-! Data, elsewhere. -/
theorem RelD_noSl : ∀ {t : Ty} {x : t.den} {vs : List Value}, slTy t = false → RelD w N t x vs → RelD w N' t x vs
  | .int _, _, _, _, h => h
  | .u8, _, _, _, h => h
  | .bool, _, _, _, h => h
  | .str, _, _, _, h => h
  | .sl t, l, vs, hs, h => by simp [slTy] at hs
  | .unit, _, _, _, h => h
  | .pair a b, p, vs, hs, h => by
    simp only [slTy, Bool.or_eq_false_iff] at hs
    simp only [RelD] at h ⊢
    obtain ⟨xs, ys, h0, h1, h2⟩ := h
    exact ⟨xs, ys, h0, RelD_noSl hs.1 h1, RelD_noSl hs.2 h2⟩

theorem RelD_to {t : Ty} {x : t.den} {vs : List Value} (hN : slTy t = true → ∀ g, N' g → N g) (h : RelD w N t x vs) : RelD w N' t x vs := by
  cases hs : slTy t with
  | false => exact RelD_noSl hs h
  | true => exact h.keep (Keep.refl w) fun g _ => hN hs g

/-- Blocks of one heap, under other numbers in another. -/
def Ren (bl : List (Nat × BSh)) (ρ : Nat → Nat) (μ μ' : Nat → Option Nat) (H H' : Nat → Blk) : Prop :=
  ∀ j s, kindIn bl j = some s → μ' (ρ j) = μ j ∧ H' (ρ j) = renB ρ (H j) ∧ H j ≠ .dead

theorem renB_data {ρ : Nat → Nat} {b : Blk} {t : Ty} {l : List t.den} (h : b = .data t l) : renB ρ b = .data t l := by subst h; rfl

theorem tag_renB {ρ : Nat → Nat} (b : Blk) : (renB ρ b).tag = b.tag := by cases b <;> rfl

theorem renB_live {ρ : Nat → Nat} {b : Blk} (h : b ≠ .dead) : renB ρ b ≠ .dead := by cases b <;> simp_all [renB]

section
variable {bl : List (Nat × BSh)} {ρ : Nat → Nat}
mutual
theorem renV_ok (hr : Ren bl ρ μ μ' H H') : ∀ (v : VSh) (p : v.den) (val : Value), (hasSl v = true → ∀ g, N' g → N g) → refsOK bl v = true → RelV w N μ H (unV v p) val → RelV w N' μ' H' (renV ρ (unV v p)) val
  | .i k, p, val, _, _, h => h
  | .u, p, val, _, _, h => h
  | .b, p, val, _, _, h => h
  | .s, p, val, _, _, h => h
  | .nilp, p, val, _, _, h => h
  | .kb _, p, val, _, _, h => h
  | .ki _ _, p, val, _, _, h => h
  | .ks _, p, val, _, _, h => h
  | .bad, p, val, _, _, h => by simp [unV, renV, RelV]
  | .nil, p, val, _, _, h => by simp [unV, renV, RelV]
  | .cons _ _, p, val, _, _, h => by simp [unV, renV, RelV]
  | .sl t, p, val, hN, _, h => by
    simp only [unV, renV, RelV] at h ⊢
    exact h.keep (Keep.refl w) fun g _ => hN rfl g
  | .ptr j o, p, val, _, hf, h => by
    simp only [unV, renV, RelV, refsOK, Option.isSome_iff_exists] at h hf ⊢
    obtain ⟨s, hs⟩ := hf
    obtain ⟨h1, h2, h3⟩ := hr j s hs
    obtain ⟨_, g, hg, hv⟩ := h
    exact ⟨by rw [h2]; exact renB_live h3, g, by rw [h1]; exact hg, hv⟩
  | .mp j, p, val, _, hf, h => by
    simp only [unV, renV, RelV, refsOK, Option.isSome_iff_exists] at h hf ⊢
    obtain ⟨s, hs⟩ := hf
    obtain ⟨h1, h2, h3⟩ := hr j s hs
    obtain ⟨_, g, hg, hv⟩ := h
    exact ⟨by rw [h2]; exact renB_live h3, g, by rw [h1]; exact hg, hv⟩
  | .mptr j o, p, val, _, hf, h => by
    simp only [unV, renV, RelV, refsOK, Option.isSome_iff_exists] at h hf ⊢
    obtain ⟨s, hs⟩ := hf
    obtain ⟨h1, h2, h3⟩ := hr j s hs
    obtain ⟨_, hv⟩ := h
    exact ⟨by rw [h2]; exact renB_live h3, by rw [h1]; exact hv⟩
  | .own j, p, val, _, hf, h => by
    simp only [unV, renV, RelV] at h ⊢
    obtain ⟨t, l, hl, hv⟩ := h
    simp only [refsOK] at hf
    cases hk : kindIn bl j with
    | none => simp [hk] at hf
    | some s =>
      obtain ⟨h1, h2, h3⟩ := hr j s hk
      exact ⟨t, l, by rw [h2]; exact renB_data hl, by rw [h1]; exact hv⟩
  | .win j, p, val, _, hf, h => by
    simp only [unV, renV, RelV] at h ⊢
    obtain ⟨t, l, hl, hv⟩ := h
    simp only [refsOK] at hf
    cases hk : kindIn bl j with
    | none => simp [hk] at hf
    | some s =>
      obtain ⟨h1, h2, h3⟩ := hr j s hk
      exact ⟨t, l, by rw [h2]; exact renB_data hl, by rw [h1]; exact hv⟩
  | .fn f cs, p, val, hN, hf, h => by
    simp only [unV, renV, RelV] at h ⊢
    obtain ⟨vs, hv, h⟩ := h
    exact ⟨vs, hv, renL_ok hr cs p vs hN hf h⟩
  | .agg cs, p, val, hN, hf, h => by
    simp only [unV, renV, RelV] at h ⊢
    obtain ⟨vs, hv, h⟩ := h
    exact ⟨vs, hv, renL_ok hr cs p vs hN hf h⟩
  | .tup cs, p, val, hN, hf, h => by
    simp only [unV, renV, RelV] at h ⊢
    obtain ⟨vs, hv, h⟩ := h
    exact ⟨vs, hv, renL_ok hr cs p vs hN hf h⟩
  | .ifc t v, p, val, hN, hf, h => by
    simp only [unV, renV, RelV] at h ⊢
    obtain ⟨u, hv, h⟩ := h
    exact ⟨u, hv, renV_ok hr v p u hN hf h⟩
  | .may v v2, p, val, hN, hf, h => by
    simp only [refsOK, Bool.and_eq_true] at hf
    simp only [hasSl, Bool.or_eq_true] at hN
    match (show v.den ⊕ v2.den from p), h with
    | .inl p, h => exact renV_ok hr v p val (fun h => hN (.inl h)) hf.1 h
    | .inr p, h =>
      have h : RelV w N μ H (unV v2 p) val := h
      have := renV_ok hr v2 p val (fun h => hN (.inr h)) hf.2 h
      exact this
theorem renL_ok (hr : Ren bl ρ μ μ' H H') : ∀ (v : VSh) (p : v.den) (vals : List Value), (hasSl v = true → ∀ g, N' g → N g) → refsOK bl v = true → RelVs w N μ H (unL v p) vals → RelVs w N' μ' H' (renL ρ (unL v p)) vals
  | .cons v v2, p, vals, hN, hf, h => by
    simp only [unL, renL, RelVs] at h ⊢
    simp only [refsOK, Bool.and_eq_true] at hf
    simp only [hasSl, Bool.or_eq_true] at hN
    obtain ⟨val, vr, rfl, h1, h2⟩ := h
    exact ⟨val, vr, rfl, renV_ok hr v p.1 val (fun h => hN (.inl h)) hf.1 h1, renL_ok hr v2 p.2 vr (fun h => hN (.inr h)) hf.2 h2⟩
  | .nil, p, vals, _, _, h => h
  | .i _, p, vals, _, _, h => h
  | .u, p, vals, _, _, h => h
  | .b, p, vals, _, _, h => h
  | .s, p, vals, _, _, h => h
  | .sl _, p, vals, _, _, h => h
  | .ptr _ _, p, vals, _, _, h => h
  | .ifc _ _, p, vals, _, _, h => h
  | .may _ _, p, vals, _, _, h => h
  | .own _, p, vals, _, _, h => h
  | .win _, p, vals, _, _, h => h
  | .mp _, p, vals, _, _, h => h
  | .mptr _ _, p, vals, _, _, h => h
  | .fn _ _, p, vals, _, _, h => h
  | .agg _, p, vals, _, _, h => h
  | .tup _, p, vals, _, _, h => h
  | .nilp, p, vals, _, _, h => h
  | .kb _, p, vals, _, _, h => h
  | .ki _ _, p, vals, _, _, h => h
  | .ks _, p, vals, _, _, h => h
  | .bad, p, vals, _, _, h => h
end
end

theorem renL_length (ρ : Nat → Nat) : ∀ l, (renL ρ l).length = l.length
  | [] => rfl
  | _ :: r => by simp [renL, renL_length ρ r]

/-! Lists of blocks. -/
theorem kindIn_mem : ∀ {bl : List (Nat × BSh)} {j : Nat} {s : BSh}, kindIn bl j = some s → (j, s) ∈ bl
  | [], _, _, h => by simp [kindIn] at h
  | (k, s0) :: bl, j, s, h => by
    simp only [kindIn] at h
    cases hk : Nat.beq k j with
    | true =>
      simp only [hk, cond_true, Option.some.injEq] at h
      rw [← Nat.eq_of_beq_eq_true hk, ← h]
      simp
    | false =>
      simp only [hk, cond_false] at h
      exact List.mem_cons_of_mem _ (kindIn_mem h)

theorem unBlks_none : ∀ (bl : List (Nat × BSh)) (q : blksDen bl) (j : Nat), kindIn bl j = none → unBlks bl q j = .dead
  | [], _, _, _ => rfl
  | (k, s) :: bl, q, j, h => by
    simp only [kindIn] at h
    cases hk : Nat.beq k j with
    | true => simp [hk] at h
    | false =>
      simp only [hk, cond_false] at h
      have hne : j ≠ k := fun e => by subst e; simp at hk
      simp only [unBlks]
      rw [updH_other hne]
      exact unBlks_none bl q.2 j h

theorem unBlks_some : ∀ (bl : List (Nat × BSh)) (q : blksDen bl) (j : Nat) (s : BSh), kindIn bl j = some s → ∃ p : s.den, unBlks bl q j = unB s p
  | [], _, _, _, h => by simp [kindIn] at h
  | (k, s0) :: bl, q, j, s, h => by
    simp only [kindIn] at h
    simp only [unBlks]
    cases hk : Nat.beq k j with
    | true =>
      simp only [hk, cond_true, Option.some.injEq] at h
      subst h
      rw [Nat.eq_of_beq_eq_true hk, updH_same]
      exact ⟨_, rfl⟩
    | false =>
      simp only [hk, cond_false] at h
      have hne : j ≠ k := fun e => by subst e; simp at hk
      rw [updH_other hne]
      exact unBlks_some bl q.2 j s h

theorem kindIn_of_mem : ∀ {bl : List (Nat × BSh)} {j : Nat} {s : BSh}, (j, s) ∈ bl → ∃ s', kindIn bl j = some s'
  | [], _, _, h => by cases h
  | (k, s0) :: bl, j, s, h => by
    simp only [kindIn]
    cases hk : Nat.beq k j with
    | true => exact ⟨s0, rfl⟩
    | false =>
      simp only [cond_false]
      rcases List.mem_cons.1 h with h | h
      · cases h; simp at hk
      · exact kindIn_of_mem h

theorem putBlks_other {ρ : Nat → Nat} : ∀ (bl : List (Nat × BSh)) (q : blksDen bl) (H : Nat → Blk) (b : Nat), (∀ j s, kindIn bl j = some s → ρ j ≠ b) → putBlks ρ bl q H b = H b
  | [], _, _, _, _ => rfl
  | (k, s) :: bl, q, H, b, h => by
    simp only [putBlks]
    have hk : ρ k ≠ b := h k s (by simp [kindIn])
    rw [updH_other (Ne.symm hk)]
    refine putBlks_other bl q.2 H b fun j s' hj => ?_
    by_cases hkj : k = j
    · subst hkj; exact hk
    · exact h j s' (by simp [kindIn, beq_ne hkj, hj])

theorem putBlks_at {ρ : Nat → Nat} : ∀ (bl : List (Nat × BSh)) (q : blksDen bl) (H : Nat → Blk) (j : Nat) (s : BSh), (∀ j s j' s', kindIn bl j = some s → kindIn bl j' = some s' → ρ j = ρ j' → j = j') → nodupN (bl.map (·.1)) = true →
    kindIn bl j = some s → putBlks ρ bl q H (ρ j) = renB ρ (unBlks bl q j)
  | [], _, _, _, _, _, _, h => by simp [kindIn] at h
  | (k, s0) :: bl, q, H, j, s, hi, hn, h => by
    simp only [putBlks, unBlks]
    by_cases hk : j = k
    · subst hk; rw [updH_same, updH_same]
    · have hne : ρ j ≠ ρ k := fun e => hk (hi j s k s0 h (by simp [kindIn]) e)
      rw [updH_other hne, updH_other hk]
      have h' : kindIn bl j = some s := by simpa [kindIn, beq_ne (Ne.symm hk)] using h
      have hn' : nodupN (bl.map (·.1)) = true := by
        simp only [List.map_cons, nodupN, Bool.and_eq_true] at hn; exact hn.2
      have hnk : ∀ j' s', kindIn bl j' = some s' → j' ≠ k := fun j' s' hj' e => by
        subst e
        simp only [List.map_cons, nodupN, Bool.and_eq_true, Bool.not_eq_true'] at hn
        have : (List.any (bl.map (·.1)) fun y => Nat.beq j' y) = true := List.any_eq_true.2 ⟨j', List.mem_map.2 ⟨_, kindIn_mem hj', rfl⟩, Nat.beq_refl j'⟩
        rw [this] at hn
        exact absurd hn.1 (by simp)
      refine putBlks_at bl q.2 H j s (fun j1 s1 j2 s2 h1 h2 he => ?_) hn' h'
      exact hi j1 s1 j2 s2 (by simp [kindIn, beq_ne (Ne.symm (hnk j1 s1 h1)), h1]) (by simp [kindIn, beq_ne (Ne.symm (hnk j2 s2 h2)), h2]) he

theorem mem_dataIds : ∀ {bl : List (Nat × BSh)} {j : Nat} {t : Ty}, (j, BSh.data t) ∈ bl → j ∈ dataIds bl
  | [], _, _, h => by cases h
  | (k, s) :: bl, j, t, h => by
    rcases List.mem_cons.1 h with h | h
    · cases h; simp [dataIds]
    · have := mem_dataIds h
      cases s <;> simp [dataIds, this]

end
end Go.Ev
