/- Functions. -/
import Derived.Test.YtgfecebcaepjfaaGreatDoorEvq5
namespace Go.Ev
open Go
section
variable {P : Program} {F : Frm (tabsOf P)} {μ μ' : Nat → Option Nat} {S S' : St} {w w' : World} {a a' : Act} {α : Type} {r : α} {M : FuncId → Bool} {pin : Nat}

def resStep (tmps : Array Value) : ResultVar → Sem Value
  | .tmp t => pure (tmps.getD t undef)
  | .cell a t => do loadVar t (← asAddr (tmps.getD a undef))

theorem results_eq (fn : Func) (tmps : Array Value) : results fn tmps = (do
    let vs ← fn.results.toList.mapM (resStep tmps)
    pure (if h : vs.toArray.size = 1 then vs.toArray[0] else .tuple vs.toArray)) := by
  unfold results
  rw [Array.mapM_eq_mapM_toList]
  simp only [bind_map_left]
  congr 1

theorem resAV_ok (hr : Rg F μ [] S a w) : ∀ (rs : List ResultVar) {K : List AV → Option α}, resAV P S rs K = some r →
    ∃ vs vals, K vs = some r ∧ RelVs w (Not F μ S.H) μ S.H vs vals ∧ (rs.mapM (resStep a.tmps)).run P w = .ok vals w
  | [], K, h => by
    simp only [resAV] at h
    exact ⟨[], [], h, by simp [RelVs], by simp⟩
  | .tmp t :: rs, K, h => by
    simp only [resAV] at h
    obtain ⟨vs, vals, h1, h2, h3⟩ := resAV_ok hr rs h
    refine ⟨_, a.tmps.getD t undef :: vals, h1, ?_, ?_⟩
    · simp only [RelVs]
      exact ⟨_, _, rfl, hr.e.slot fun j b y hh => absurd (hr.tags _ _ _ _ hh) (by simp), h2⟩
    · simp [resStep, h3]
  | .cell b t :: rs, K, h => by
    simp only [resAV] at h
    have hs := hr.e.slot (t := b) fun j b' y hh => absurd (hr.tags _ _ _ _ hh) (by simp)
    obtain ⟨y, val, hK, hy, hrun⟩ := loadAV_ok (P := P) (X := fun _ _ => False) hr.hp hs (fun _ _ _ _ _ h => h) h
    obtain ⟨vs, vals, h1, h2, h3⟩ := resAV_ok hr rs hK
    refine ⟨_, val :: vals, h1, ?_, ?_⟩
    · simp only [RelVs]
      exact ⟨_, _, rfl, hy, h2⟩
    · have h4 := hrun w (Agr.refl _)
      have hp : ∃ ad, a.tmps.getD b undef = .pointer (some ad) := by
        unfold loadAV at h
        cases hu : P.underlying t with
        | none => simp [hu] at h
        | some d =>
          simp only [hu] at h
          cases hE : S.E b <;> simp only [hE, RelV, reduceCtorEq] at h hs
          · obtain ⟨_, g, o, _, _, h5, _⟩ := hs; exact ⟨_, h5⟩
          · obtain ⟨_, g, _, h5⟩ := hs; exact ⟨_, h5⟩
          · obtain ⟨_, g, _, _, _, h5⟩ := hs; exact ⟨_, h5⟩
      obtain ⟨ad, had⟩ := hp
      rw [had] at h4
      have h5 : (loadVar t ad).run P w = .ok val w := by
        simpa [Instr.loadAt, Instr.sureAddr] using h4
      simp [resStep, had, asAddr, h3, h5]

theorem argsE_ok {N : Nat → Prop} {H : Nat → Blk} : ∀ (args : List AV) (vals : List Value) (k : Nat) (tmps : Array Value), RelVs w N μ H args vals → (∀ i, (h : i < vals.length) → tmps.getD (k + i) undef = vals[i]) →
    ∀ t, RelV w N μ H (argsE k args t) (tmps.getD t undef) ∧ ∀ j b x, argsE k args t ≠ .gd j b x
  | [], _, _, _, _, _, t => by simp [argsE, RelV]
  | x :: r, vals, k, tmps, h, ht, t => by
    simp only [RelVs] at h
    obtain ⟨v, vr, rfl, h1, h2⟩ := h
    simp only [argsE]
    by_cases hk : t = k
    · subst hk
      rw [upd_same]
      have := ht 0 (by simp)
      simp only [Nat.add_zero, List.getElem_cons_zero] at this
      rw [this]
      exact ⟨noGd_rel h1, noGd_ne _⟩
    · rw [upd_other hk]
      refine argsE_ok r vr (k + 1) tmps h2 (fun i hi => ?_) t
      have := ht (i + 1) (by simp; omega)
      simpa [Nat.add_assoc, Nat.add_comm 1 i] using this

theorem resVal {vs : List AV} {vals : List Value} {K : AV → Option α} {N : Nat → Prop} {H : Nat → Blk} (hK : (match vs with
      | [v] => K v
      | vs => K (.tup vs)) = some r) (h : RelVs w N μ H vs vals) : ∃ v, K v = some r ∧ RelV w N μ H v (if h : vals.toArray.size = 1 then vals.toArray[0] else .tuple vals.toArray) := by
  have hl := RelVs_length h
  split at hK
  · rename_i v
    simp only [RelVs] at h
    obtain ⟨x, y, rfl, h1, rfl⟩ := h
    exact ⟨v, hK, by simpa using h1⟩
  · rename_i hne
    refine ⟨_, hK, ?_⟩
    have : ¬ vals.toArray.size = 1 := by
      intro h1
      simp only [List.size_toArray] at h1
      rw [h1] at hl
      cases vs with
      | nil => simp at hl
      | cons x r => cases r with
        | nil => exact hne x rfl
        | cons _ _ => simp at hl
    rw [dif_neg this]
    simp only [RelV]
    exact ⟨vals, rfl, h⟩

/-- Where a function's body begins. -/
def inSt (args : List AV) (S : St) : St := ⟨argsE 0 args, S.H, S.nx, []⟩

theorem evFn_ok (hm : P.follows .mixedOrders = true) {C : Calling} (hC : CallOK P C M) {f : FuncId} {fn : Func} (hf : P.funcs[f]? = some fn) {h : HT} {args : List AV} {K : AV → St → Option α}
    (hl : ∀ c, fn.body = some c → ∀ x ∈ loopsIn c (strip h), x.OK P C M pin fn.ntmps) (he : evFn P C M pin fn h args S K = some r)
    {vals : List Value} (hp : Hp F μ S.H S.nx w) (hargs : RelVs w (Not F μ S.H) μ S.H args vals) (hpin : pin ≤ S.nx) :
    Calls P f vals.toArray w (fun e w' => ∃ v S' μ' a a' val, EndR e v val ∧ K v ⟨killsE S'.kl S.E, S'.H, S'.nx, S.kl ++ S'.kl⟩ = some r ∧
      RelV w' (Not F μ' S'.H) μ' S'.H v val ∧ CP (isLeaf h) F pin μ (inSt args S) w a μ' S' w' a') := by
  unfold evFn at he
  cases hb : fn.body with
  | none => simp [hb] at he
  | some c =>
    simp only [hb] at he
    obtain ⟨hle, he⟩ := cond_some he
    have hle := Nat.le_of_ble_eq_true hle
    have hlen := RelVs_length hargs
    refine calls_of_wp hf hb ?_
    have hsz : (vals.toArray ++ Array.replicate (fn.ntmps - vals.toArray.size) undef).size = fn.ntmps := by simp; omega
    have hE := argsE_ok args vals 0 (vals.toArray ++ Array.replicate (fn.ntmps - vals.toArray.size) undef) hargs (fun i hi => by simp [Array.getD_eq_getD_getElem?, Array.getElem?_append, hi])
    have hrg : Rg F μ [] (inSt args S) ⟨vals.toArray ++ Array.replicate (fn.ntmps - vals.toArray.size) undef, []⟩ w := by
      refine ⟨hp, fun t => ?_, fun t j b x hh => absurd hh ((hE t).2 j b x)⟩
      obtain ⟨h1, h2⟩ := hE t
      show (match argsE 0 args t with
        | .gd j b x => _
        | x => RelV w _ _ _ x _)
      cases hu : argsE 0 args t <;> rw [hu] at h1 h2 <;> first | exact h1 | exact absurd rfl (h2 _ _ _)
    have hj := joined_ok (ev_ok hm hC c (strip h) (hl c hb))
    refine wp_mono (hj (inSt args S) α _ r he F μ w _ hsz.symm hpin hrg) fun e a' w' ⟨ex, S', μ', av, h1, h2, h3⟩ => ?_
    have key : a' = av → (resAV P S' fn.results.toList fun vs => match vs with
      | [v] => cond (noPan v) (K v ⟨killsE S'.kl S.E, S'.H, S'.nx, S.kl ++ S'.kl⟩) none
      | vs => K (.tup vs) ⟨killsE S'.kl S.E, S'.H, S'.nx, S.kl ++ S'.kl⟩) = some r → a'.defers = [] ∧ ∃ v, (results fn a'.tmps).run P w' = .ok v w' ∧
        ∃ v' S' μ' a a' val, EndR (Ending.returned v) v' val ∧ K v' ⟨killsE S'.kl S.E, S'.H, S'.nx, S.kl ++ S'.kl⟩ = some r ∧ RelV w' (Not F μ' S'.H) μ' S'.H v' val ∧ CP (isLeaf h) F pin μ (inSt args S) w a μ' S' w' a' := fun hav hres => by
      subst hav
      obtain ⟨vs, us, k1, k2, k3⟩ := resAV_ok (P := P) h3.rg _ hres
      obtain ⟨v, k4, k5⟩ := resVal (K := fun v => cond (noPan v) (K v ⟨killsE S'.kl S.E, S'.H, S'.nx, S.kl ++ S'.kl⟩) none) (by
        split at k1
        · exact k1
        · exact k1) k2
      obtain ⟨k6, k7⟩ := cond_some k4
      refine ⟨h3.defers, _, ?_, v, S', μ', _, a', _, (EndR.ret k6).2 rfl, k7, k5, h3⟩
      rw [results_eq]
      simp only [Sem.run_bind, k3, Result.andThen_ok, Sem.run_pure]
    cases ex with
    | exit id => simp at h2
    | normal => obtain ⟨rfl, hav⟩ := h1; exact key hav h2
    | ret => obtain ⟨rfl, hav⟩ := h1; exact key hav h2
    | pan =>
      obtain ⟨rfl, hd⟩ := h1
      refine ⟨hd.trans h3.defers, .pan (S'.E 0), S', μ', _, av, _, rfl, h2, ?_, h3⟩
      have := h3.rg.e.slot (t := 0) fun j b y hh => absurd (h3.rg.tags _ _ _ _ hh) (by simp)
      simpa only [RelV] using this

end
end Go.Ev

namespace Go.Ev
open Go
section
variable {P : Program} {F F' : Frm (tabsOf P)} {μ μ' μ'' : Nat → Option Nat} {S S' : St} {w w' : World} {α : Type} {r : α} {M : FuncId → Bool} {N N' : Nat → Prop} {H H' : Nat → Blk}

def Enters (P : Program) (f : FuncId) : Prop := ∀ (args : Array Value) w, (callFunc f args).run P w = .ok (.enter f args) w

/-- What is known of a function holds. -/
structure Orc.OK (P : Program) (f : FuncId) (o : Orc) : Prop where
  enters : Enters P f
  fits : o.fits = true
  run : ∀ p r, o.run p = some r → ∀ (F : Frm (tabsOf P)) μ w vals, Hp F μ (unBlks o.blks p.2) o.blks.length w → RelVs w (Not F μ (unBlks o.blks p.2)) μ (unBlks o.blks p.2) (unL o.args p.1) vals →
    Calls P f vals.toArray w (fun e w' => ∃ val μ' nx', EndR e (unV o.out r.1) val ∧ Hp F μ' (unBlks o.oblks r.2) nx' w' ∧ RelV w' (Not F μ' (unBlks o.oblks r.2)) μ' (unBlks o.oblks r.2) (unV o.out r.1) val ∧
      Chg (Trk μ (unBlks o.blks p.2)) w w' ∧ (∀ g, Trk μ' (unBlks o.oblks r.2) g → Trk μ (unBlks o.blks p.2) g ∨ w.heap.size ≤ g) ∧
      (∀ j, j < o.blks.length → Pin (unBlks o.oblks r.2 j) (unBlks o.blks p.2 j) (μ' j) (μ j)))

/-! Data, elsewhere. -/
theorem RelD_noSl : ∀ {t : Ty} {x : t.den} {vs : List Value}, slTy t = false → RelD w N t x vs → RelD w N' t x vs
  | .int _, _, _, _, h => h
  | .u8, _, _, _, h => h
  | .bool, _, _, _, h => h
  | .str, _, _, _, h => h
  | .sl t, l, vs, hs, h => by simp [slTy] at hs
  | .unit, _, _, _, h => h
  | .pair a b, p, vs, hs, h => by
    simp only [slTy, Bool.or_eq_false_iff] at hs
    simp only [RelD] at h ⊢
    obtain ⟨xs, ys, h0, h1, h2⟩ := h
    exact ⟨xs, ys, h0, RelD_noSl hs.1 h1, RelD_noSl hs.2 h2⟩

theorem RelD_to {t : Ty} {x : t.den} {vs : List Value} (hN : slTy t = true → ∀ g, N' g → N g) (h : RelD w N t x vs) : RelD w N' t x vs := by
  cases hs : slTy t with
  | false => exact RelD_noSl hs h
  | true => exact h.keep (Keep.refl w) fun g _ => hN hs g

/-- Blocks of one heap, under other numbers in another. -/
def Ren (bl : List (Nat × BSh)) (ρ : Nat → Nat) (μ μ' : Nat → Option Nat) (H H' : Nat → Blk) : Prop :=
  ∀ j s, kindIn bl j = some s → μ' (ρ j) = μ j ∧ H' (ρ j) = renB ρ (H j) ∧ H j ≠ .dead

theorem renB_data {ρ : Nat → Nat} {b : Blk} {t : Ty} {l : List t.den} (h : b = .data t l) : renB ρ b = .data t l := by subst h; rfl

theorem tag_renB {ρ : Nat → Nat} (b : Blk) : (renB ρ b).tag = b.tag := by cases b <;> rfl

theorem renB_live {ρ : Nat → Nat} {b : Blk} (h : b ≠ .dead) : renB ρ b ≠ .dead := by cases b <;> simp_all [renB]

section
variable {bl : List (Nat × BSh)} {ρ : Nat → Nat}
mutual
theorem renV_ok (hr : Ren bl ρ μ μ' H H') : ∀ (v : VSh) (p : v.den) (val : Value), (hasSl v = true → ∀ g, N' g → N g) → refsOK bl v = true → RelV w N μ H (unV v p) val → RelV w N' μ' H' (renV ρ (unV v p)) val
  | .i k, p, val, _, _, h => h
  | .u, p, val, _, _, h => h
  | .b, p, val, _, _, h => h
  | .s, p, val, _, _, h => h
  | .nilp, p, val, _, _, h => h
  | .kb _, p, val, _, _, h => h
  | .ki _ _, p, val, _, _, h => h
  | .ks _, p, val, _, _, h => h
  | .bad, p, val, _, _, h => by simp [unV, renV, RelV]
  | .nil, p, val, _, _, h => by simp [unV, renV, RelV]
  | .cons _ _, p, val, _, _, h => by simp [unV, renV, RelV]
  | .sl t, p, val, hN, _, h => by
    simp only [unV, renV, RelV] at h ⊢
    exact h.keep (Keep.refl w) fun g _ => hN rfl g
  | .ptr j o, p, val, _, hf, h => by
    simp only [unV, renV, RelV, refsOK, Option.isSome_iff_exists] at h hf ⊢
    obtain ⟨s, hs⟩ := hf
    obtain ⟨h1, h2, h3⟩ := hr j s hs
    obtain ⟨_, g, hg, hv⟩ := h
    exact ⟨by rw [h2]; exact renB_live h3, g, by rw [h1]; exact hg, hv⟩
  | .mp j, p, val, _, hf, h => by
    simp only [unV, renV, RelV, refsOK, Option.isSome_iff_exists] at h hf ⊢
    obtain ⟨s, hs⟩ := hf
    obtain ⟨h1, h2, h3⟩ := hr j s hs
    obtain ⟨_, g, hg, hv⟩ := h
    exact ⟨by rw [h2]; exact renB_live h3, g, by rw [h1]; exact hg, hv⟩
  | .mptr j o, p, val, _, hf, h => by
    simp only [unV, renV, RelV, refsOK, Option.isSome_iff_exists] at h hf ⊢
    obtain ⟨s, hs⟩ := hf
    obtain ⟨h1, h2, h3⟩ := hr j s hs
    obtain ⟨_, hv⟩ := h
    exact ⟨by rw [h2]; exact renB_live h3, by rw [h1]; exact hv⟩
  | .own j, p, val, _, hf, h => by
    simp only [unV, renV, RelV] at h ⊢
    obtain ⟨t, l, hl, hv⟩ := h
    simp only [refsOK] at hf
    cases hk : kindIn bl j with
    | none => simp [hk] at hf
    | some s =>
      obtain ⟨h1, h2, h3⟩ := hr j s hk
      exact ⟨t, l, by rw [h2]; exact renB_data hl, by rw [h1]; exact hv⟩
  | .win j, p, val, _, hf, h => by
    simp only [unV, renV, RelV] at h ⊢
    obtain ⟨t, l, hl, hv⟩ := h
    simp only [refsOK] at hf
    cases hk : kindIn bl j with
    | none => simp [hk] at hf
    | some s =>
      obtain ⟨h1, h2, h3⟩ := hr j s hk
      exact ⟨t, l, by rw [h2]; exact renB_data hl, by rw [h1]; exact hv⟩
  | .fn f cs, p, val, hN, hf, h => by
    simp only [unV, renV, RelV] at h ⊢
    obtain ⟨vs, hv, h⟩ := h
    exact ⟨vs, hv, renL_ok hr cs p vs hN hf h⟩
  | .agg cs, p, val, hN, hf, h => by
    simp only [unV, renV, RelV] at h ⊢
    obtain ⟨vs, hv, h⟩ := h
    exact ⟨vs, hv, renL_ok hr cs p vs hN hf h⟩
  | .tup cs, p, val, hN, hf, h => by
    simp only [unV, renV, RelV] at h ⊢
    obtain ⟨vs, hv, h⟩ := h
    exact ⟨vs, hv, renL_ok hr cs p vs hN hf h⟩
  | .ifc t v, p, val, hN, hf, h => by
    simp only [unV, renV, RelV] at h ⊢
    obtain ⟨u, hv, h⟩ := h
    exact ⟨u, hv, renV_ok hr v p u hN hf h⟩
  | .may v v2, p, val, hN, hf, h => by
    simp only [refsOK, Bool.and_eq_true] at hf
    simp only [hasSl, Bool.or_eq_true] at hN
    match (show v.den ⊕ v2.den from p), h with
    | .inl p, h => exact renV_ok hr v p val (fun h => hN (.inl h)) hf.1 h
    | .inr p, h =>
      have h : RelV w N μ H (unV v2 p) val := h
      have := renV_ok hr v2 p val (fun h => hN (.inr h)) hf.2 h
      exact this
theorem renL_ok (hr : Ren bl ρ μ μ' H H') : ∀ (v : VSh) (p : v.den) (vals : List Value), (hasSl v = true → ∀ g, N' g → N g) → refsOK bl v = true → RelVs w N μ H (unL v p) vals → RelVs w N' μ' H' (renL ρ (unL v p)) vals
  | .cons v v2, p, vals, hN, hf, h => by
    simp only [unL, renL, RelVs] at h ⊢
    simp only [refsOK, Bool.and_eq_true] at hf
    simp only [hasSl, Bool.or_eq_true] at hN
    obtain ⟨val, vr, rfl, h1, h2⟩ := h
    exact ⟨val, vr, rfl, renV_ok hr v p.1 val (fun h => hN (.inl h)) hf.1 h1, renL_ok hr v2 p.2 vr (fun h => hN (.inr h)) hf.2 h2⟩
  | .nil, p, vals, _, _, h => h
  | .i _, p, vals, _, _, h => h
  | .u, p, vals, _, _, h => h
  | .b, p, vals, _, _, h => h
  | .s, p, vals, _, _, h => h
  | .sl _, p, vals, _, _, h => h
  | .ptr _ _, p, vals, _, _, h => h
  | .ifc _ _, p, vals, _, _, h => h
  | .may _ _, p, vals, _, _, h => h
  | .own _, p, vals, _, _, h => h
  | .win _, p, vals, _, _, h => h
  | .mp _, p, vals, _, _, h => h
  | .mptr _ _, p, vals, _, _, h => h
  | .fn _ _, p, vals, _, _, h => h
  | .agg _, p, vals, _, _, h => h
  | .tup _, p, vals, _, _, h => h
  | .nilp, p, vals, _, _, h => h
  | .kb _, p, vals, _, _, h => h
  | .ki _ _, p, vals, _, _, h => h
  | .ks _, p, vals, _, _, h => h
  | .bad, p, vals, _, _, h => h
end
end

theorem renL_length (ρ : Nat → Nat) : ∀ l, (renL ρ l).length = l.length
  | [] => rfl
  | _ :: r => by simp [renL, renL_length ρ r]

/-! Lists of blocks. -/
theorem kindIn_mem : ∀ {bl : List (Nat × BSh)} {j : Nat} {s : BSh}, kindIn bl j = some s → (j, s) ∈ bl
  | [], _, _, h => by simp [kindIn] at h
  | (k, s0) :: bl, j, s, h => by
    simp only [kindIn] at h
    cases hk : Nat.beq k j with
    | true =>
      simp only [hk, cond_true, Option.some.injEq] at h
      rw [← Nat.eq_of_beq_eq_true hk, ← h]
      simp
    | false =>
      simp only [hk, cond_false] at h
      exact List.mem_cons_of_mem _ (kindIn_mem h)

theorem unBlks_none : ∀ (bl : List (Nat × BSh)) (q : blksDen bl) (j : Nat), kindIn bl j = none → unBlks bl q j = .dead
  | [], _, _, _ => rfl
  | (k, s) :: bl, q, j, h => by
    simp only [kindIn] at h
    cases hk : Nat.beq k j with
    | true => simp [hk] at h
    | false =>
      simp only [hk, cond_false] at h
      have hne : j ≠ k := fun e => by subst e; simp at hk
      simp only [unBlks]
      rw [updH_other hne]
      exact unBlks_none bl q.2 j h

theorem unBlks_some : ∀ (bl : List (Nat × BSh)) (q : blksDen bl) (j : Nat) (s : BSh), kindIn bl j = some s → ∃ p : s.den, unBlks bl q j = unB s p
  | [], _, _, _, h => by simp [kindIn] at h
  | (k, s0) :: bl, q, j, s, h => by
    simp only [kindIn] at h
    simp only [unBlks]
    cases hk : Nat.beq k j with
    | true =>
      simp only [hk, cond_true, Option.some.injEq] at h
      subst h
      rw [Nat.eq_of_beq_eq_true hk, updH_same]
      exact ⟨_, rfl⟩
    | false =>
      simp only [hk, cond_false] at h
      have hne : j ≠ k := fun e => by subst e; simp at hk
      rw [updH_other hne]
      exact unBlks_some bl q.2 j s h

theorem kindIn_of_mem : ∀ {bl : List (Nat × BSh)} {j : Nat} {s : BSh}, (j, s) ∈ bl → ∃ s', kindIn bl j = some s'
  | [], _, _, h => by cases h
  | (k, s0) :: bl, j, s, h => by
    simp only [kindIn]
    cases hk : Nat.beq k j with
    | true => exact ⟨s0, rfl⟩
    | false =>
      simp only [cond_false]
      rcases List.mem_cons.1 h with h | h
      · cases h; simp at hk
      · exact kindIn_of_mem h

theorem putBlks_other {ρ : Nat → Nat} : ∀ (bl : List (Nat × BSh)) (q : blksDen bl) (H : Nat → Blk) (b : Nat), (∀ j s, kindIn bl j = some s → ρ j ≠ b) → putBlks ρ bl q H b = H b
  | [], _, _, _, _ => rfl
  | (k, s) :: bl, q, H, b, h => by
    simp only [putBlks]
    have hk : ρ k ≠ b := h k s (by simp [kindIn])
    rw [updH_other (Ne.symm hk)]
    refine putBlks_other bl q.2 H b fun j s' hj => ?_
    by_cases hkj : k = j
    · subst hkj; exact hk
    · exact h j s' (by simp [kindIn, beq_ne hkj, hj])

theorem putBlks_at {ρ : Nat → Nat} : ∀ (bl : List (Nat × BSh)) (q : blksDen bl) (H : Nat → Blk) (j : Nat) (s : BSh), (∀ j s j' s', kindIn bl j = some s → kindIn bl j' = some s' → ρ j = ρ j' → j = j') → nodupN (bl.map (·.1)) = true →
    kindIn bl j = some s → putBlks ρ bl q H (ρ j) = renB ρ (unBlks bl q j)
  | [], _, _, _, _, _, _, h => by simp [kindIn] at h
  | (k, s0) :: bl, q, H, j, s, hi, hn, h => by
    simp only [putBlks, unBlks]
    by_cases hk : j = k
    · subst hk; rw [updH_same, updH_same]
    · have hne : ρ j ≠ ρ k := fun e => hk (hi j s k s0 h (by simp [kindIn]) e)
      rw [updH_other hne, updH_other hk]
      have h' : kindIn bl j = some s := by simpa [kindIn, beq_ne (Ne.symm hk)] using h
      have hn' : nodupN (bl.map (·.1)) = true := by
        simp only [List.map_cons, nodupN, Bool.and_eq_true] at hn; exact hn.2
      have hnk : ∀ j' s', kindIn bl j' = some s' → j' ≠ k := fun j' s' hj' e => by
        subst e
        simp only [List.map_cons, nodupN, Bool.and_eq_true, Bool.not_eq_true'] at hn
        have : (List.any (bl.map (·.1)) fun y => Nat.beq j' y) = true := List.any_eq_true.2 ⟨j', List.mem_map.2 ⟨_, kindIn_mem hj', rfl⟩, Nat.beq_refl j'⟩
        rw [this] at hn
        exact absurd hn.1 (by simp)
      refine putBlks_at bl q.2 H j s (fun j1 s1 j2 s2 h1 h2 he => ?_) hn' h'
      exact hi j1 s1 j2 s2 (by simp [kindIn, beq_ne (Ne.symm (hnk j1 s1 h1)), h1]) (by simp [kindIn, beq_ne (Ne.symm (hnk j2 s2 h2)), h2]) he

theorem mem_dataIds : ∀ {bl : List (Nat × BSh)} {j : Nat} {t : Ty}, (j, BSh.data t) ∈ bl → j ∈ dataIds bl
  | [], _, _, h => by cases h
  | (k, s) :: bl, j, t, h => by
    rcases List.mem_cons.1 h with h | h
    · cases h; simp [dataIds]
    · have := mem_dataIds h
      cases s <;> simp [dataIds, this]

end
end Go.Ev

namespace Go.Ev
open Go
section
variable {P : Program} {F F' : Frm (tabsOf P)} {μ μ' μ'' : Nat → Option Nat} {S S' : St} {w w' : World} {α : Type} {r : α} {M : FuncId → Bool} {N N' : Nat → Prop} {H H' : Nat → Blk}

theorem renOf_cases (B : Bd) (n nx j : Nat) : (j < n ∧ ∃ b, findB B.m j = some (some b) ∧ renOf B n nx j = b) ∨ renOf B n nx j = nx + j := by
  unfold renOf
  cases hb : Nat.ble n j with
  | true => right; rfl
  | false =>
    have hlt : j < n := by
      rcases Nat.lt_or_ge j n with h | h
      · exact h
      · rw [Nat.ble_eq_true_of_le h] at hb; cases hb
    simp only [cond_false]
    cases hf : findB B.m j with
    | none => right; rfl
    | some x =>
      cases x with
      | none => right; rfl
      | some b => left; exact ⟨hlt, b, rfl, rfl⟩

theorem hasSlB_vars : ∀ {bl : List (Nat × BSh)} {j : Nat} {cs : VSh}, (j, BSh.vars cs) ∈ bl → hasSl cs = true → hasSlB bl = true
  | [], _, _, h, _ => by cases h
  | (k, s) :: bl, j, cs, h, hs => by
    rcases List.mem_cons.1 h with h | h
    · cases h; simp [hasSlB, hs]
    · have := hasSlB_vars h hs
      cases s <;> simp [hasSlB, this]

theorem hasSlB_data : ∀ {bl : List (Nat × BSh)} {j : Nat} {t : Ty}, (j, BSh.data t) ∈ bl → slTy t = true → hasSlB bl = true
  | [], _, _, h, _ => by cases h
  | (k, s) :: bl, j, cs, h, hs => by
    rcases List.mem_cons.1 h with h | h
    · cases h; simp [hasSlB, hs]
    · have := hasSlB_data h hs
      cases s <;> simp [hasSlB, this]

theorem hasSlB_map : ∀ {bl : List (Nat × BSh)} {j : Nat} {kt vt : Ty} {ag : Bool}, (j, BSh.mapd kt vt ag) ∈ bl → (slTy kt || slTy vt) = true → hasSlB bl = true
  | [], _, _, _, _, h, _ => by cases h
  | (k, s) :: bl, j, kt, vt, ag, h, hs => by
    rcases List.mem_cons.1 h with h | h
    · cases h
      simp only [hasSlB, Bool.or_eq_true] at hs ⊢
      exact .inl hs
    · have := hasSlB_map h hs
      cases s <;> simp [hasSlB, this]

theorem room_of_heap' {g n : Nat} (hk : g < w.heap.size → w'.heap[g]? = w.heap[g]?) (h : room w g n) : room w' g n := fun k hkn => by
  obtain ⟨h1, h2⟩ := h k hkn
  obtain ⟨v, hv⟩ := Option.isSome_iff_exists.1 h1
  have hlt := World.block_lt_of_cell? w _ hv
  exact ⟨by rw [cell?_of_heap (hk hlt)]; exact h1, by rw [frozen?_of_heap (hk hlt)]; exact h2⟩

theorem kb_kind {kl : List Nat} {b : Blk} : (b = .dead → kb kl b = .dead) ∧ (b ≠ .dead → kb kl b ≠ .dead) ∧ (∀ cs, kb kl b = .vars cs → ∃ cs', b = .vars cs') ∧ (∀ t l, b = .data t l → kb kl b = .data t l) := by
  cases kl <;> cases b <;> simp [kb, killB]

theorem unVK_eq : ∀ (v : VSh) (p : v.den) (K : AV → Option α), unVK v p K = K (unV v p) := fun v p K => by
  cases v
  case may v1 v2 => cases (show v1.den ⊕ v2.den from p) <;> rfl
  all_goals rfl

theorem EndR.ren {ρ : Nat → Nat} {e : Ending} {v : AV} {val : Value} (h : EndR e v val) : EndR e (renV ρ v) val := by
  cases v <;> exact h

/-- An image under an assignment of numbers. -/
theorem Orc.call_ok {o : Orc} {f : FuncId} (ho : o.OK P f) {args : List AV} {K : AV → St → Option α} (h : o.call args S K = some r) {vals : List Value} (hp : Hp F μ S.H S.nx w) (hargs : RelVs w (Not F μ S.H) μ S.H args vals) :
    Calls P f vals.toArray w (fun e w' => ∃ v S' μ' kl val, EndR e v val ∧ K v S' = some r ∧ S'.E = killsE kl S.E ∧ S'.kl = S.kl ++ kl ∧ Hp F μ' S'.H S'.nx w' ∧
      Pl F μ S.H S.nx w kl μ' S'.H S'.nx w' ∧ RelV w' (Not F μ' S'.H) μ' S'.H v val ∧ (o.blks = [] → Keep (fun _ => False) w w')) := by
  unfold Orc.call at h
  obtain ⟨p, B1, hK1, he1, hr1⟩ := packL_ok (pin := 0) (bl := o.blks) hp o.args args ⟨[], []⟩ _ vals hargs h
  obtain ⟨q, B, hK2, he2, hf2, hk2, hm2, hr2⟩ := packBlks_ok (bl := o.blks) hp o.blks hK1
  obtain ⟨hB, hK3⟩ := cond_some hK2
  have hfits := ho.fits
  simp only [Orc.fits, Bool.and_eq_true, List.all_eq_true] at hfits
  obtain ⟨⟨⟨⟨⟨fnd, frange⟩, fargs⟩, fout⟩, fblks⟩, foblks⟩ := hfits
  have hlive_lt : ∀ b, S.H b ≠ .dead → b < S.nx := fun b hb => Nat.lt_of_not_le fun hle => hb (hp.dead b hle)
  have hkey : ∀ j, unBlks o.blks q j ≠ .dead → j < o.blks.length := fun j hj => by
    obtain ⟨x, hx, rfl⟩ := hm2 j hj
    exact Nat.le_of_ble_eq_true (fblks x hx).1.1.1
  -- the callee's blocks
  have hsrc : ∀ j, j < o.blks.length → ∀ b, findB B.m j = some (some b) → ∃ s, kindIn o.blks j = some s ∧ S.H b ≠ .dead ∧ (∀ t l, S.H b = .data t l → unBlks o.blks q j = .data t l) ∧ ((unBlks o.blks q j).tag ≠ 0 → (S.H b).tag = (unBlks o.blks q j).tag) := fun j hj b hb => by
    have h1 := frange j (List.mem_range.2 hj)
    obtain ⟨s, hs⟩ := Option.isSome_iff_exists.1 h1
    have h2 := hf2 j (hk2 j s hs).live
    unfold From at h2
    rw [hb] at h2
    exact ⟨s, hs, h2.1, h2.2.1, h2.2.2.2⟩
  let F' : Frm (tabsOf P) := Frm.mk fun g => F g ∨ ∃ b, S.H b ≠ .dead ∧ μ b = some g ∧ b ∉ B.z ∧ ∀ j, j < o.blks.length → findB B.m j ≠ some (some b)
  have hfin : Fin F F' μ 0 S.H o.blks B (unBlks o.blks q) := by
    refine ⟨hB, hf2, hk2, fun g hg => ?_, fun b g hb hl hm hg => ?_⟩
    · rcases hg with hg | ⟨b, h1, h2, _⟩
      · exact .inl hg
      · exact .inr ⟨b, h1, h2⟩
    · rcases hg with hg | ⟨b', h1, h2, h3, _⟩
      · exact hp.apart b g hl hm hg
      · have := hp.inj b b' g hl h1 hm h2
        subst this
        exact h3 hb
  have hp1 : Hp F' (muB μ B) (unBlks o.blks q) o.blks.length w := by
    refine hfin.hp hp (fun j => hr2 F' B _ (Ext.refl B) hfin (List.all_eq_true.2 fun x hx => (fblks x hx).1.1.2) j) (fun j hj => ?_) (fun j b g hlj hb hl hm hg => ?_) (fun g hg => ?_)
    · by_cases hd : unBlks o.blks q j = .dead
      · exact hd
      · have := hkey j hd; omega
    · rcases hg with hg | ⟨b', h1, h2, _, h4⟩
      · exact hp.apart b g hl hm hg
      · have := hp.inj b b' g hl h1 hm h2
        subst this
        exact h4 j (hkey j hlj) hb
    · rcases hg with hg | ⟨b', h1, h2, _⟩
      · exact hp.flt g hg
      · exact hp.lt b' g h1 h2
  have hargs1 := hr1 F' B _ he2 hfin fargs
  cases hrun : o.run (p, q) with
  | none => simp [hrun] at hK3
  | some rr =>
    simp only [hrun, Option.bind_some] at hK3
    rw [unVK_eq] at hK3
    refine (ho.run (p, q) rr hrun F' (muB μ B) w vals hp1 hargs1).mono fun e w' ⟨val, μ2, nx2, hee, hp2, hv2, hchg, hnew, hpin⟩ => ?_
    simp only at hp2 hv2 hchg hnew hpin
    generalize hgone : cond (hasSl o.out || hasSlB o.oblks) B.z [] = gone at hK3
    generalize hρ : renOf B o.blks.length S.nx = ρ at hK3
    generalize hkl : gone ++ (dataIds o.blks).map ρ = kl at hK3
    have hρc : ∀ j, (j < o.blks.length ∧ ∃ b, findB B.m j = some (some b) ∧ ρ j = b) ∨ ρ j = S.nx + j := fun j => by rw [← hρ]; exact renOf_cases _ _ _ _
    have hbl : ∀ j, j < o.blks.length → ∀ b, findB B.m j = some (some b) → b < S.nx := fun j hj b hb => by
      obtain ⟨_, _, h1, _⟩ := hsrc j hj b hb
      exact hlive_lt b h1
    have hinj0 : ∀ j j', ρ j = ρ j' → j = j' := fun j j' he => by
      rcases hρc j with ⟨h1, b, h2, h3⟩ | h1 <;> rcases hρc j' with ⟨g1, b', g2, g3⟩ | g1
      · rw [h3, g3] at he; subst he; exact Bd.ok_inj hB h2 g2
      · have := hbl j h1 b h2; omega
      · have := hbl j' g1 b' g2; omega
      · omega
    have hat : ∀ j s, kindIn o.oblks j = some s → putBlks ρ o.oblks rr.2 (dropBlks kl (killsH kl S.H)) (ρ j) = renB ρ (unBlks o.oblks rr.2 j) := fun j s hs =>
      putBlks_at o.oblks rr.2 _ j s (fun j _ j' _ _ _ => hinj0 j j') fnd hs
    have hoff : ∀ b, (∀ j s, kindIn o.oblks j = some s → ρ j ≠ b) → putBlks ρ o.oblks rr.2 (dropBlks kl (killsH kl S.H)) b = if b ∈ kl then .dead else kb kl (S.H b) := fun b hb => by
      rw [putBlks_other _ _ _ _ hb, dropBlks_eq, killsH_eq]
    generalize hH' : putBlks ρ o.oblks rr.2 (dropBlks kl (killsH kl S.H)) = H' at hK3 hat hoff
    have hex : ∃ μ' : Nat → Option Nat, (∀ j s, kindIn o.oblks j = some s → μ' (ρ j) = μ2 j) ∧ ∀ b, (∀ j s, kindIn o.oblks j = some s → ρ j ≠ b) → μ' b = μ b := by
      classical
      refine ⟨fun b => if hh : ∃ j s, kindIn o.oblks j = some s ∧ ρ j = b then μ2 hh.choose else μ b, fun j s hs => ?_, fun b hb => ?_⟩
      · have hh : ∃ j' s, kindIn o.oblks j' = some s ∧ ρ j' = ρ j := ⟨j, s, hs, rfl⟩
        simp only [hh, dite_true]
        obtain ⟨_, _, h3⟩ := hh.choose_spec
        rw [hinj0 _ _ h3]
      · exact dif_neg fun ⟨j, s, h1, h2⟩ => hb j s h1 h2
    obtain ⟨μ3, hm3, hm3'⟩ := hex
    have hlive2 : ∀ j s, kindIn o.oblks j = some s → unBlks o.oblks rr.2 j ≠ .dead := fun j s hs => by
      obtain ⟨x, hx⟩ := unBlks_some o.oblks rr.2 j s hs
      rw [hx]; exact (unB_kin s x).live
    have hren : Ren o.oblks ρ μ2 μ3 (unBlks o.oblks rr.2) H' := fun j s hs => ⟨hm3 j s hs, hat j s hs, hlive2 j s hs⟩
    -- what is tracked now
    have hcase : ∀ b, (∃ j s, kindIn o.oblks j = some s ∧ ρ j = b) ∨ (∀ j s, kindIn o.oblks j = some s → ρ j ≠ b) := fun b => by
      by_cases hh : ∃ j s, kindIn o.oblks j = some s ∧ ρ j = b
      · exact .inl hh
      · exact .inr fun j s h1 h2 => hh ⟨j, s, h1, h2⟩
    have hold : ∀ b, (∀ j s, kindIn o.oblks j = some s → ρ j ≠ b) → H' b ≠ .dead → b ∉ kl ∧ S.H b ≠ .dead ∧ H' b = kb kl (S.H b) ∧ μ3 b = μ b := fun b hb hl => by
      have h1 := hoff b hb
      by_cases hbk : b ∈ kl
      · rw [if_pos hbk] at h1; exact absurd h1 hl
      · rw [if_neg hbk] at h1
        refine ⟨hbk, fun hd => hl ?_, h1, hm3' b hb⟩
        rw [h1]; exact kb_kind.1 hd
    have hunbound : ∀ b, (∀ j s, kindIn o.oblks j = some s → ρ j ≠ b) → b ∉ kl → ∀ j, j < o.blks.length → findB B.m j ≠ some (some b) := fun b hb hbk j hj hf => by
      obtain ⟨s, hs, _, hdat, _⟩ := hsrc j hj b hf
      have hρj : ρ j = b := by
        rw [← hρ]
        unfold renOf
        have : Nat.ble o.blks.length j = false := by
          cases hh : Nat.ble o.blks.length j with
          | false => rfl
          | true => have := Nat.le_of_ble_eq_true hh; omega
        rw [this, hf]; rfl
      have hmem := kindIn_mem hs
      have hs2 := fblks _ hmem
      cases s with
      | data t =>
        refine hbk ?_
        rw [← hkl]
        exact List.mem_append_right _ (List.mem_map.2 ⟨j, mem_dataIds hmem, hρj⟩)
      | iter => have := hs2.1.2; simp [notIter] at this
      | vars cs =>
        have h4 := hs2.2
        cases hko : kindIn o.oblks j with
        | none => simp [hko, tagO, BSh.tag] at h4
        | some s' => exact hb j s' hko hρj
      | mapd kt vt ag =>
        have h4 := hs2.2
        cases hko : kindIn o.oblks j with
        | none => simp [hko, tagO, BSh.tag] at h4
        | some s' => exact hb j s' hko hρj
    have htrk : ∀ g, Trk μ3 H' g → Trk μ2 (unBlks o.oblks rr.2) g ∨ ∃ b, (∀ j s, kindIn o.oblks j = some s → ρ j ≠ b) ∧ b ∉ kl ∧ S.H b ≠ .dead ∧ μ b = some g := fun g ⟨b, h1, h2⟩ => by
      rcases hcase b with ⟨j, s, hs, rfl⟩ | hb
      · rw [hm3 j s hs] at h2
        exact .inl ⟨j, hlive2 j s hs, h2⟩
      · obtain ⟨k1, k2, _, k4⟩ := hold b hb h1
        exact .inr ⟨b, hb, k1, k2, by rw [← k4]; exact h2⟩
    have htrk1 : ∀ g, Trk (muB μ B) (unBlks o.blks q) g → Trk μ S.H g := fun g => hfin.trk
    have hk : Keep (Not F μ S.H) w w' := ⟨hchg.size, fun g hg hn => hchg.keep g hg fun ht => hn (.inr (htrk1 g ht))⟩
    have hN : ∀ g, g < w.heap.size → Not F μ3 H' g → Not F μ S.H g := fun g hg hn => by
      rcases hn with hn | hn
      · exact .inl hn
      · rcases htrk g hn with h1 | ⟨b, _, _, h1, h2⟩
        · exact .inr (htrk1 g ((hnew g h1).resolve_right (by omega)))
        · exact .inr ⟨b, h1, h2⟩
    have hkept : ∀ b, (∀ j s, kindIn o.oblks j = some s → ρ j ≠ b) → b ∉ kl → S.H b ≠ .dead → ∀ g, μ b = some g → w'.heap[g]? = w.heap[g]? := fun b hb hbk hl g hg => by
      refine hchg.keep g (hp.lt b g hl hg) fun ⟨j, h1, h2⟩ => ?_
      have h3 := hf2 j h1
      unfold From at h3
      unfold muB at h2
      cases hf : findB B.m j with
      | none => simp [hf] at h2
      | some x =>
        cases x with
        | none => simp [hf] at h2
        | some b' =>
          simp only [hf] at h2 h3
          have := hp.inj b b' g hl h3.1 hg h2
          subst this
          exact hunbound b hb hbk j (hkey j h1) hf
    have hcompat : ∀ b, hasN kl b = false → S.H b ≠ .dead → Compat w w' μ μ3 S.H H' b := fun b hbk hl => by
      have hbk' : b ∉ kl := fun hm => by rw [hasN_mem.2 hm] at hbk; cases hbk
      rcases hcase b with ⟨j, s, hs, hjb⟩ | hb
      · rcases hρc j with ⟨h1, b', h2, h3⟩ | h1
        · rw [hjb] at h3
          subst h3
          obtain ⟨s0, hs0, hl0, hd0, hv0⟩ := hsrc j h1 b h2
          have hmem := kindIn_mem hs0
          have hs2 := fblks _ hmem
          have htag : s0.tag ≠ 0 → Compat w w' μ μ3 S.H H' b := fun ht => by
            have h4 := hs2.2
            simp only [hs, tagO] at h4
            have hst : s.tag = s0.tag := by
              rw [Bool.or_eq_true] at h4
              rcases h4 with h4 | h4
              · exact absurd (Nat.eq_of_beq_eq_true h4) ht
              · exact Nat.eq_of_beq_eq_true h4
            obtain ⟨x, hx⟩ := unBlks_some o.oblks rr.2 j _ hs
            obtain ⟨y, hy⟩ := unBlks_some o.blks q j _ hs0
            have hxt : (unBlks o.oblks rr.2 j).tag = s.tag := by rw [hx]; exact (unB_kin s x).tag
            have hyt : (unBlks o.blks q j).tag = s0.tag := by rw [hy]; exact (unB_kin s0 y).tag
            obtain ⟨_, hpj⟩ := hpin j h1 (by rw [hxt, hst]; exact ht)
            have hbt : (S.H b).tag = s0.tag := (hv0 (by rw [hyt]; exact ht)).trans hyt
            refine ⟨?_, ?_⟩
            · rw [← hjb, hm3 j _ hs, hpj]
              unfold muB
              rw [h2, hjb]
            · have hd : H' b ≠ .dead := by
                rw [← hjb, hat j _ hs]
                exact renB_live (hlive2 j _ hs)
              cases hSb : S.H b <;> simp only <;> first | exact hd | (rw [hSb] at hbt; exact absurd hbt.symm ht)
          cases s0 with
          | data t => exact absurd (by rw [← hkl]; exact List.mem_append_right _ (List.mem_map.2 ⟨j, mem_dataIds hmem, hjb⟩)) hbk'
          | iter => have := hs2.1.2; simp [notIter] at this
          | vars cs => exact htag (by simp [BSh.tag])
          | mapd kt vt ag => exact htag (by simp [BSh.tag])
        · have := hlive_lt b hl; omega
      · have hH : H' b = kb kl (S.H b) := by rw [hoff b hb, if_neg hbk']
        refine ⟨hm3' b hb, ?_⟩
        cases hSb : S.H b with
        | dead => exact absurd hSb hl
        | data t l =>
          refine ⟨⟨l, by rw [hH]; exact kb_kind.2.2.2 t l hSb, rfl⟩, fun g n hg hrm => ?_⟩
          exact room_of_heap' (fun _ => hkept b hb hbk' hl g hg) hrm
        | vars cs => simp only; rw [hH]; exact kb_kind.2.1 hl
        | iter s k => simp only; rw [hH]; exact kb_kind.2.1 hl
        | mapd kt vt ag l => simp only; rw [hH]; exact kb_kind.2.1 hl
    have hsl : (hasSl o.out || hasSlB o.oblks) = true → ∀ g, Not F μ3 H' g → Not F' μ2 (unBlks o.oblks rr.2) g := fun hh g hn => by
      rcases hn with hn | hn
      · exact .inl (.inl hn)
      · rcases htrk g hn with h1 | ⟨b, hb, hbk, h1, h2⟩
        · exact .inr h1
        · refine .inl (.inr ⟨b, h1, h2, fun hz => hbk ?_, hunbound b hb hbk⟩)
          rw [← hkl, ← hgone, hh]
          exact List.mem_append_left _ hz
    have hapart : ∀ b g, H' b ≠ .dead → μ3 b = some g → ¬ F g := fun b g hl hg hF => by
      rcases hcase b with ⟨j, s, hs, rfl⟩ | hb
      · rw [hm3 j s hs] at hg
        exact hp2.apart j g (hlive2 j s hs) hg (.inl hF)
      · obtain ⟨_, k2, _, k4⟩ := hold b hb hl
        exact hp.apart b g k2 (by rw [← k4]; exact hg) hF
    have hapart2 : ∀ b g, H' b ≠ .dead → μ3 b = some g → ¬ (tabsOf P).out g := fun b g hl hg hF => by
      rcases hcase b with ⟨j, s, hs, rfl⟩ | hb
      · rw [hm3 j s hs] at hg
        exact hp2.tapart j g (hlive2 j s hs) hg hF
      · obtain ⟨_, k2, _, k4⟩ := hold b hb hl
        exact hp.tapart b g k2 (by rw [← k4]; exact hg) hF
    have himold : ∀ j s b g, kindIn o.oblks j = some s → μ2 j = some g → (∀ j s, kindIn o.oblks j = some s → ρ j ≠ b) → b ∉ kl → S.H b ≠ .dead → μ b = some g → False := fun j s b g hs hg hb hbk hl hg' => by
      have hlt := hp.lt b g hl hg'
      rcases hnew g ⟨j, hlive2 j s hs, hg⟩ with ⟨j1, h1, h2⟩ | h1
      · have h3 := hf2 j1 h1
        unfold From at h3
        unfold muB at h2
        cases hf : findB B.m j1 with
        | none => simp [hf] at h2
        | some x =>
          cases x with
          | none => simp [hf] at h2
          | some b' =>
            simp only [hf] at h2 h3
            have := hp.inj b b' g hl h3.1 hg' h2
            subst this
            exact hunbound b hb hbk j1 (hkey j1 h1) hf
      · omega
    have hhp : Hp F μ3 H' (S.nx + (o.blks.length + o.oblks.length)) w' := by
      refine ⟨fun b => ?_, fun b g hl hg => ?_, fun b b' g hl hl' hg hg' => ?_, fun b hb => ?_, hapart, fun g hg => Nat.lt_of_lt_of_le (hp.flt g hg) hchg.size, hp2.tab, hapart2⟩
      · rcases hcase b with ⟨j, s, hs, rfl⟩ | hb
        · have hB2 := hp2.blk j
          obtain ⟨x, hx⟩ := unBlks_some o.oblks rr.2 j s hs
          rw [hat j s hs]
          rw [hx] at hB2 ⊢
          have hmem := kindIn_mem hs
          have hs2 := foblks _ hmem
          cases s with
          | vars cs =>
            simp only [unB, RelB, renB] at hB2 ⊢
            rw [hm3 j _ hs]
            rcases hB2 with hB2 | ⟨g, vs, h1, h2, h3, h4⟩
            · exact .inl hB2
            refine .inr ⟨g, vs, h1, ?_, h3, h4⟩
            exact renL_ok hren cs x vs (fun hh => hsl (by rw [hasSlB_vars hmem hh]; simp)) (by simpa [bshOK] using hs2.1.2) h2
          | data t =>
            simp only [unB, RelB, renB] at hB2 ⊢
            rw [hm3 j _ hs]
            rcases hB2 with h1 | ⟨g, h1, h2, h3⟩
            · exact .inl h1
            · refine .inr ⟨g, h1, h2, fun i hi => ?_⟩
              obtain ⟨es, e1, e2, e3⟩ := h3 i hi
              exact ⟨es, e1, e2, RelD_to (fun hh => hsl (by rw [hasSlB_data hmem hh]; simp)) e3⟩
          | iter =>
            simp only [unB, RelB, renB] at hB2 ⊢
            rw [hm3 j _ hs]
            exact hB2
          | mapd kt vt ag =>
            simp only [unB, RelB, renB] at hB2 ⊢
            rw [hm3 j _ hs]
            rcases hB2 with hB2 | ⟨g, es, c, h1, h2, h3, h4⟩
            · exact .inl hB2
            refine .inr ⟨g, es, c, h1, h2, h3, h4.1, fun i a b => ?_⟩
            obtain ⟨r1, cs, r2, r3⟩ := h4.2 i a b
            exact ⟨RelD_to (fun hh => hsl (by rw [hasSlB_map hmem (by rw [hh]; simp)]; simp)) r1, cs, RelD_to (fun hh => hsl (by rw [hasSlB_map hmem (by rw [hh]; simp)]; simp)) r2, r3⟩
        · by_cases hbk : b ∈ kl
          · rw [hoff b hb, if_pos hbk]; simp [RelB]
          · have hH : H' b = kb kl (S.H b) := by rw [hoff b hb, if_neg hbk]
            rw [hH]
            have hB := hp.blk b
            cases hSb : S.H b with
            | dead => rw [kb_kind.1 rfl]; simp [RelB]
            | vars cs =>
              have hlb : S.H b ≠ .dead := by simp [hSb]
              simp only [hSb, RelB] at hB
              have hkb : kb kl (.vars cs) = .vars (kL kl cs) := by cases kl <;> rfl
              rw [hkb]
              simp only [RelB]
              rw [hm3' b hb]
              rcases hB with hB | ⟨g, vs, h1, h2, h3, h4⟩
              · exact .inl hB
              have hsame := hkept b hb hbk hlb g h1
              exact .inr ⟨g, vs, h1, RelVs_kL hk hN hcompat _ _ h2, rowAt_of_heap hsame h3, room_of_heap' (fun _ => hsame) h4⟩
            | data t l =>
              have hlb : S.H b ≠ .dead := by simp [hSb]
              simp only [hSb, RelB] at hB
              rw [kb_kind.2.2.2 t l rfl]
              simp only [RelB]
              rw [hm3' b hb]
              rcases hB with h1 | ⟨g, h1, h2, h3⟩
              · exact .inl h1
              · have hsame := hkept b hb hbk hlb g h1
                refine .inr ⟨g, h1, room_of_heap' (fun _ => hsame) h2, fun i hi => ?_⟩
                obtain ⟨es, e1, e2, e3⟩ := h3 i hi
                exact ⟨es, e1, rowAt_of_heap hsame e2, e3.keep hk hN⟩
            | iter s k =>
              have hlb : S.H b ≠ .dead := by simp [hSb]
              simp only [hSb, RelB] at hB
              obtain ⟨g, h1, h2⟩ := hB
              have hsame := hkept b hb hbk hlb g h1
              have hkb : kb kl (.iter s k) = .iter s k := by cases kl <;> rfl
              rw [hkb]
              simp only [RelB]
              exact ⟨g, by rw [hm3' b hb]; exact h1, by rw [hsame]; exact h2⟩
            | mapd kt vt ag l =>
              have hlb : S.H b ≠ .dead := by simp [hSb]
              simp only [hSb, RelB] at hB
              have hkb : kb kl (.mapd kt vt ag l) = .mapd kt vt ag l := by cases kl <;> rfl
              rw [hkb]
              simp only [RelB]
              rw [hm3' b hb]
              rcases hB with hB | ⟨g, es, c, h1, h2, h3, h4⟩
              · exact .inl hB
              have hsame := hkept b hb hbk hlb g h1
              exact .inr ⟨g, es, c, h1, by rw [hsame]; exact h2, h3, h4.keep hk hN⟩
      · rcases hcase b with ⟨j, s, hs, rfl⟩ | hb
        · rw [hm3 j s hs] at hg
          exact hp2.lt j g (hlive2 j s hs) hg
        · obtain ⟨_, k2, _, k4⟩ := hold b hb hl
          exact Nat.lt_of_lt_of_le (hp.lt b g k2 (by rw [← k4]; exact hg)) hchg.size
      · rcases hcase b with ⟨j, s, hs, rfl⟩ | hb <;> rcases hcase b' with ⟨j', s', hs', rfl⟩ | hb'
        · rw [hm3 j s hs] at hg
          rw [hm3 j' s' hs'] at hg'
          rw [hp2.inj j j' g (hlive2 j s hs) (hlive2 j' s' hs') hg hg']
        · rw [hm3 j s hs] at hg
          obtain ⟨k1, k2, _, k4⟩ := hold b' hb' hl'
          exact (himold j s b' g hs hg hb' k1 k2 (by rw [← k4]; exact hg')).elim
        · rw [hm3 j' s' hs'] at hg'
          obtain ⟨k1, k2, _, k4⟩ := hold b hb hl
          exact (himold j' s' b g hs' hg' hb k1 k2 (by rw [← k4]; exact hg)).elim
        · obtain ⟨_, k2, _, k4⟩ := hold b hb hl
          obtain ⟨_, l2, _, l4⟩ := hold b' hb' hl'
          exact hp.inj b b' g k2 l2 (by rw [← k4]; exact hg) (by rw [← l4]; exact hg')
      · have hb' : ∀ j s, kindIn o.oblks j = some s → ρ j ≠ b := fun j s hs he => by
          have h1 : j < o.blks.length + o.oblks.length := Nat.le_of_ble_eq_true (foblks _ (kindIn_mem hs)).1.1
          rcases hρc j with ⟨h2, b', h3, h4⟩ | h2
          · have := hbl j h2 b' h3; omega
          · omega
        rw [hoff b hb']
        split
        · rfl
        · exact kb_kind.1 (hp.dead b (by omega))
    have hpl : Pl F μ S.H S.nx w kl μ3 H' (S.nx + (o.blks.length + o.oblks.length)) w' := by
      refine ⟨⟨⟨hchg.size, fun g hg hn => hchg.keep g hg fun ht => hn (htrk1 g ht)⟩, hchg.os, hchg.tape, hchg.output⟩, fun g hg => ?_, by omega, fun x v hx => RelV_kv hk hN hcompat x v hx, fun b hb ht => ?_⟩
      · rcases htrk g hg with h1 | ⟨b, _, _, h1, h2⟩
        · exact (hnew g h1).imp (htrk1 g) id
        · exact .inl ⟨b, h1, h2⟩
      · rcases hcase b with ⟨j, s, hs, hjb⟩ | hb'
        · rcases hρc j with ⟨h1, b', h2, h3⟩ | h1
          · rw [hjb] at h3
            subst h3
            rw [← hjb, hat j s hs, tag_renB] at ht
            obtain ⟨h4, h5⟩ := hpin j h1 ht
            obtain ⟨_, _, _, _, hv0⟩ := hsrc j h1 b h2
            refine ⟨?_, ?_⟩
            · rw [← hjb, hat j s hs, tag_renB, hjb, hv0 (by rw [h4]; exact ht), h4]
            · rw [← hjb, hm3 j _ hs, h5]
              unfold muB
              rw [h2, hjb]
          · omega
        · obtain ⟨_, _, k3, k4⟩ := hold b hb' (fun h => ht (by rw [h]; rfl))
          rw [k3, tag_kb]
          exact ⟨rfl, k4⟩
    refine ⟨_, _, μ3, kl, val, hee.ren, hK3, rfl, rfl, hhp, hpl, ?_, fun hnil => ?_⟩
    · exact renV_ok hren o.out rr.1 val (fun hh => hsl (by rw [hh]; rfl)) fout hv2
    · refine ⟨hchg.size, fun g hg _ => hchg.keep g hg fun ⟨j, h1, _⟩ => ?_⟩
      have := hkey j h1
      rw [hnil] at this
      simp at this

end
end Go.Ev
