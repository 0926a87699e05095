/- Texts that the last one leans on, 5. -/
import Derived.Test.YtipfcejaekfogaaZD
import Derived.ProofKit
import Derived.DataReads
import Derived.ChangeOld
import Derived.Lib.Bytealg
import Derived.Shelf.Unicode.DecodeAny
import Derived.Lib.IndexMore
import Derived.Lib.IndexAny
import Derived.Lib.SlTrimSet
import Derived.Lib.SlFresh
import Derived.Shelf.Strings.FieldsFuncGrows
import Derived.Laws.OwnMore
import Derived.Lib.Join
import Derived.Lib.SlicesCompact
import Derived.Sort.Walk0
import Derived.Sort.EncStr
import Derived.Sort.Grow
import Derived.Sort.Row
import Derived.Test.YtipfcejaekfogaaProg
import Derived.KernelRfl
/- Calls of functions of which something is known. -/
namespace Go.Ev
open Go
section
variable {P : Program} {F F' : Frm (tabsOf P)} {μ μ' μ'' : Nat → Option Nat} {S S' : St} {w w' : World} {α : Type} {r : α} {M : FuncId → Bool} {N N' : Nat → Prop} {H H' : Nat → Blk}

theorem renOf_cases (B : Bd) (n nx j : Nat) : (j < n ∧ ∃ b, findB B.m j = some (some b) ∧ renOf B n nx j = b) ∨ renOf B n nx j = nx + j := by
  unfold renOf
  cases hb : Nat.ble n j with
  | true => right; rfl
  | false =>
    have hlt : j < n := by
      rcases Nat.lt_or_ge j n with h | h
      · exact h
      · rw [Nat.ble_eq_true_of_le h] at hb; cases hb
    simp only [cond_false]
    cases hf : findB B.m j with
    | none => right; rfl
    | some x =>
      cases x with
      | none => right; rfl
      | some b => left; exact ⟨hlt, b, rfl, rfl⟩

theorem hasSlB_vars : ∀ {bl : List (Nat × BSh)} {j : Nat} {cs : VSh}, (j, BSh.vars cs) ∈ bl → hasSl cs = true → hasSlB bl = true
  | [], _, _, h, _ => by cases h
  | (k, s) :: bl, j, cs, h, hs => by
    rcases List.mem_cons.1 h with h | h
    · cases h; simp [hasSlB, hs]
    · have := hasSlB_vars h hs
      cases s <;> simp [hasSlB, this]

theorem hasSlB_data : ∀ {bl : List (Nat × BSh)} {j : Nat} {t : Ty}, (j, BSh.data t) ∈ bl → slTy t = true → hasSlB bl = true
  | [], _, _, h, _ => by cases h
  | (k, s) :: bl, j, cs, h, hs => by
    rcases List.mem_cons.1 h with h | h
    · cases h; simp [hasSlB, hs]
    · have := hasSlB_data h hs
      cases s <;> simp [hasSlB, this]

theorem hasSlB_map : ∀ {bl : List (Nat × BSh)} {j : Nat} {kt vt : Ty} {ag : Bool}, (j, BSh.mapd kt vt ag) ∈ bl → (slTy kt || slTy vt) = true → hasSlB bl = true
  | [], _, _, _, _, h, _ => by cases h
  | (k, s) :: bl, j, kt, vt, ag, h, hs => by
    rcases List.mem_cons.1 h with h | h
    · cases h
      simp only [hasSlB, Bool.or_eq_true] at hs ⊢
      exact .inl hs
    · have := hasSlB_map h hs
      cases s <;> simp [hasSlB, this]

theorem room_of_heap' {g n : Nat} (hk : g < w.heap.size → w'.heap[g]? = w.heap[g]?) (h : room w g n) : room w' g n := fun k hkn => by
  obtain ⟨h1, h2⟩ := h k hkn
  obtain ⟨v, hv⟩ := Option.isSome_iff_exists.1 h1
  have hlt := World.block_lt_of_cell? w _ hv
  exact ⟨by rw [cell?_of_heap (hk hlt)]; exact h1, by rw [frozen?_of_heap (hk hlt)]; exact h2⟩

theorem kb_kind {kl : List Nat} {b : Blk} : (b = .dead → kb kl b = .dead) ∧ (b ≠ .dead → kb kl b ≠ .dead) ∧ (∀ cs, kb kl b = .vars cs → ∃ cs', b = .vars cs') ∧ (∀ t l, b = .data t l → kb kl b = .data t l) := by
  cases kl <;> cases b <;> simp [kb, killB]

theorem unVK_eq : ∀ (v : VSh) (p : v.den) (K : AV → Option α), unVK v p K = K (unV v p) := fun v p K => by
  cases v
  case may v1 v2 => cases (show v1.den ⊕ v2.den from p) <;> rfl
  all_goals rfl

theorem EndR.ren {ρ : Nat → Nat} {e : Ending} {v : AV} {val : Value} (h : EndR e v val) : EndR e (renV ρ v) val := by
  cases v <;> exact h

/-- An image under an assignment of numbers. -/
theorem Orc.call_ok {o : Orc} {f : FuncId} (ho : o.OK P f) {args : List AV} {K : AV → St → Option α} (h : o.call args S K = some r) {vals : List Value} (hp : Hp F μ S.H S.nx w) (hargs : RelVs w (Not F μ S.H) μ S.H args vals) :
    Calls P f vals.toArray w (fun e w' => ∃ v S' μ' kl val, EndR e v val ∧ K v S' = some r ∧ S'.E = killsE kl S.E ∧ S'.kl = S.kl ++ kl ∧ Hp F μ' S'.H S'.nx w' ∧
      Pl F μ S.H S.nx w kl μ' S'.H S'.nx w' ∧ RelV w' (Not F μ' S'.H) μ' S'.H v val ∧ (o.blks = [] → Keep (fun _ => False) w w')) := by
  unfold Orc.call at h
  obtain ⟨p, B1, hK1, he1, hr1⟩ := packL_ok (pin := 0) (bl := o.blks) hp o.args args ⟨[], []⟩ _ vals hargs h
  obtain ⟨q, B, hK2, he2, hf2, hk2, hm2, hr2⟩ := packBlks_ok (bl := o.blks) hp o.blks hK1
  obtain ⟨hB, hK3⟩ := cond_some hK2
  have hfits := ho.fits
  simp only [Orc.fits, Bool.and_eq_true, List.all_eq_true] at hfits
  obtain ⟨⟨⟨⟨⟨fnd, frange⟩, fargs⟩, fout⟩, fblks⟩, foblks⟩ := hfits
  have hlive_lt : ∀ b, S.H b ≠ .dead → b < S.nx := fun b hb => Nat.lt_of_not_le fun hle => hb (hp.dead b hle)
  have hkey : ∀ j, unBlks o.blks q j ≠ .dead → j < o.blks.length := fun j hj => by
    obtain ⟨x, hx, rfl⟩ := hm2 j hj
    exact Nat.le_of_ble_eq_true (fblks x hx).1.1.1
  -- the callee's blocks
  have hsrc : ∀ j, j < o.blks.length → ∀ b, findB B.m j = some (some b) → ∃ s, kindIn o.blks j = some s ∧ S.H b ≠ .dead ∧ (∀ t l, S.H b = .data t l → unBlks o.blks q j = .data t l) ∧ ((unBlks o.blks q j).tag ≠ 0 → (S.H b).tag = (unBlks o.blks q j).tag) := fun j hj b hb => by
    have h1 := frange j (List.mem_range.2 hj)
    obtain ⟨s, hs⟩ := Option.isSome_iff_exists.1 h1
    have h2 := hf2 j (hk2 j s hs).live
    unfold From at h2
    rw [hb] at h2
    exact ⟨s, hs, h2.1, h2.2.1, h2.2.2.2.1⟩
  let F' : Frm (tabsOf P) := Frm.mk fun g => F g ∨ ∃ b, S.H b ≠ .dead ∧ μ b = some g ∧ b ∉ B.z ∧ ∀ j, j < o.blks.length → findB B.m j ≠ some (some b)
  have hfin : Fin F F' μ 0 S.H o.blks B (unBlks o.blks q) := by
    refine ⟨hB, hf2, hk2, fun g hg => ?_, fun b g hb hl hm hg => ?_⟩
    · rcases hg with hg | ⟨b, h1, h2, _⟩
      · exact .inl hg
      · exact .inr ⟨b, h1, h2⟩
    · rcases hg with hg | ⟨b', h1, h2, h3, _⟩
      · exact hp.apart b g hl hm hg
      · have := hp.inj b b' g hl h1 hm h2
        subst this
        exact h3 hb
  have hp1 : Hp F' (muB μ B) (unBlks o.blks q) o.blks.length w := by
    refine hfin.hp hp (fun j => hr2 F' B _ (Ext.refl B) hfin (List.all_eq_true.2 fun x hx => (fblks x hx).1.1.2) j) (fun j hj => ?_) (fun j b g hlj hb hl hm hg => ?_) (fun g hg => ?_)
    · by_cases hd : unBlks o.blks q j = .dead
      · exact hd
      · have := hkey j hd; omega
    · rcases hg with hg | ⟨b', h1, h2, _, h4⟩
      · exact hp.apart b g hl hm hg
      · have := hp.inj b b' g hl h1 hm h2
        subst this
        exact h4 j (hkey j hlj) hb
    · rcases hg with hg | ⟨b', h1, h2, _⟩
      · exact hp.flt g hg
      · exact hp.lt b' g h1 h2
  have hargs1 := hr1 F' B _ he2 hfin fargs
  cases hrun : o.run (p, q) with
  | none => simp [hrun] at hK3
  | some rr =>
    simp only [hrun, Option.bind_some] at hK3
    rw [unVK_eq] at hK3
    refine (ho.run (p, q) rr hrun F' (muB μ B) w vals hp1 hargs1).mono fun e w' ⟨val, μ2, nx2, hee, hp2, hv2, hchg, hnew, hpin⟩ => ?_
    simp only at hp2 hv2 hchg hnew hpin
    generalize hgone : cond (hasSl o.out || hasSlB o.oblks) B.z [] = gone at hK3
    generalize hρ : renOf B o.blks.length S.nx = ρ at hK3
    generalize hkl : gone ++ (dataIds o.blks).map ρ = kl at hK3
    have hρc : ∀ j, (j < o.blks.length ∧ ∃ b, findB B.m j = some (some b) ∧ ρ j = b) ∨ ρ j = S.nx + j := fun j => by rw [← hρ]; exact renOf_cases _ _ _ _
    have hbl : ∀ j, j < o.blks.length → ∀ b, findB B.m j = some (some b) → b < S.nx := fun j hj b hb => by
      obtain ⟨_, _, h1, _⟩ := hsrc j hj b hb
      exact hlive_lt b h1
    have hinj0 : ∀ j j', ρ j = ρ j' → j = j' := fun j j' he => by
      rcases hρc j with ⟨h1, b, h2, h3⟩ | h1 <;> rcases hρc j' with ⟨g1, b', g2, g3⟩ | g1
      · rw [h3, g3] at he; subst he; exact Bd.ok_inj hB h2 g2
      · have := hbl j h1 b h2; omega
      · have := hbl j' g1 b' g2; omega
      · omega
    have hat : ∀ j s, kindIn o.oblks j = some s → putBlks ρ o.oblks rr.2 (dropBlks kl (killsH kl S.H)) (ρ j) = renB ρ (unBlks o.oblks rr.2 j) := fun j s hs =>
      putBlks_at o.oblks rr.2 _ j s (fun j _ j' _ _ _ => hinj0 j j') fnd hs
    have hoff : ∀ b, (∀ j s, kindIn o.oblks j = some s → ρ j ≠ b) → putBlks ρ o.oblks rr.2 (dropBlks kl (killsH kl S.H)) b = if b ∈ kl then .dead else kb kl (S.H b) := fun b hb => by
      rw [putBlks_other _ _ _ _ hb, dropBlks_eq, killsH_eq]
    generalize hH' : putBlks ρ o.oblks rr.2 (dropBlks kl (killsH kl S.H)) = H' at hK3 hat hoff
    have hex : ∃ μ' : Nat → Option Nat, (∀ j s, kindIn o.oblks j = some s → μ' (ρ j) = μ2 j) ∧ ∀ b, (∀ j s, kindIn o.oblks j = some s → ρ j ≠ b) → μ' b = μ b := by
      classical
      refine ⟨fun b => if hh : ∃ j s, kindIn o.oblks j = some s ∧ ρ j = b then μ2 hh.choose else μ b, fun j s hs => ?_, fun b hb => ?_⟩
      · have hh : ∃ j' s, kindIn o.oblks j' = some s ∧ ρ j' = ρ j := ⟨j, s, hs, rfl⟩
        simp only [hh, dite_true]
        obtain ⟨_, _, h3⟩ := hh.choose_spec
        rw [hinj0 _ _ h3]
      · exact dif_neg fun ⟨j, s, h1, h2⟩ => hb j s h1 h2
    obtain ⟨μ3, hm3, hm3'⟩ := hex
    have hlive2 : ∀ j s, kindIn o.oblks j = some s → unBlks o.oblks rr.2 j ≠ .dead := fun j s hs => by
      obtain ⟨x, hx⟩ := unBlks_some o.oblks rr.2 j s hs
      rw [hx]; exact (unB_kin s x).live
    have hren : Ren o.oblks ρ μ2 μ3 (unBlks o.oblks rr.2) H' := fun j s hs => ⟨hm3 j s hs, hat j s hs, hlive2 j s hs⟩
    -- what is tracked now
    have hcase : ∀ b, (∃ j s, kindIn o.oblks j = some s ∧ ρ j = b) ∨ (∀ j s, kindIn o.oblks j = some s → ρ j ≠ b) := fun b => by
      by_cases hh : ∃ j s, kindIn o.oblks j = some s ∧ ρ j = b
      · exact .inl hh
      · exact .inr fun j s h1 h2 => hh ⟨j, s, h1, h2⟩
    have hold : ∀ b, (∀ j s, kindIn o.oblks j = some s → ρ j ≠ b) → H' b ≠ .dead → b ∉ kl ∧ S.H b ≠ .dead ∧ H' b = kb kl (S.H b) ∧ μ3 b = μ b := fun b hb hl => by
      have h1 := hoff b hb
      by_cases hbk : b ∈ kl
      · rw [if_pos hbk] at h1; exact absurd h1 hl
      · rw [if_neg hbk] at h1
        refine ⟨hbk, fun hd => hl ?_, h1, hm3' b hb⟩
        rw [h1]; exact kb_kind.1 hd
    have hunbound : ∀ b, (∀ j s, kindIn o.oblks j = some s → ρ j ≠ b) → b ∉ kl → ∀ j, j < o.blks.length → findB B.m j ≠ some (some b) := fun b hb hbk j hj hf => by
      obtain ⟨s, hs, _, hdat, _⟩ := hsrc j hj b hf
      have hρj : ρ j = b := by
        rw [← hρ]
        unfold renOf
        have : Nat.ble o.blks.length j = false := by
          cases hh : Nat.ble o.blks.length j with
          | false => rfl
          | true => have := Nat.le_of_ble_eq_true hh; omega
        rw [this, hf]; rfl
      have hmem := kindIn_mem hs
      have hs2 := fblks _ hmem
      cases s with
      | data t =>
        refine hbk ?_
        rw [← hkl]
        exact List.mem_append_right _ (List.mem_map.2 ⟨j, mem_dataIds hmem, hρj⟩)
      | iter => have := hs2.1.2; simp [notIter] at this
      | vars cs =>
        have h4 := hs2.2
        cases hko : kindIn o.oblks j with
        | none => simp [hko, tagO, BSh.tag] at h4
        | some s' => exact hb j s' hko hρj
      | mapd kt vt ag =>
        refine hbk ?_
        rw [← hkl]
        exact List.mem_append_right _ (List.mem_map.2 ⟨j, mem_dataIds' hmem, hρj⟩)
    have htrk : ∀ g, Trk μ3 H' g → Trk μ2 (unBlks o.oblks rr.2) g ∨ ∃ b, (∀ j s, kindIn o.oblks j = some s → ρ j ≠ b) ∧ b ∉ kl ∧ S.H b ≠ .dead ∧ μ b = some g := fun g ⟨b, h1, h2⟩ => by
      rcases hcase b with ⟨j, s, hs, rfl⟩ | hb
      · rw [hm3 j s hs] at h2
        exact .inl ⟨j, hlive2 j s hs, h2⟩
      · obtain ⟨k1, k2, _, k4⟩ := hold b hb h1
        exact .inr ⟨b, hb, k1, k2, by rw [← k4]; exact h2⟩
    have htrk1 : ∀ g, Trk (muB μ B) (unBlks o.blks q) g → Trk μ S.H g := fun g => hfin.trk
    have hk : Keep (Not F μ S.H) w w' := ⟨hchg.size, fun g hg hn => hchg.keep g hg fun ht => hn (.inr (htrk1 g ht))⟩
    have hN : ∀ g, g < w.heap.size → Not F μ3 H' g → Not F μ S.H g := fun g hg hn => by
      rcases hn with hn | hn
      · exact .inl hn
      · rcases htrk g hn with h1 | ⟨b, _, _, h1, h2⟩
        · exact .inr (htrk1 g ((hnew g h1).resolve_right (by omega)))
        · exact .inr ⟨b, h1, h2⟩
    have hkept : ∀ b, (∀ j s, kindIn o.oblks j = some s → ρ j ≠ b) → b ∉ kl → S.H b ≠ .dead → ∀ g, μ b = some g → w'.heap[g]? = w.heap[g]? := fun b hb hbk hl g hg => by
      refine hchg.keep g (hp.lt b g hl hg) fun ⟨j, h1, h2⟩ => ?_
      have h3 := hf2 j h1
      unfold From at h3
      unfold muB at h2
      cases hf : findB B.m j with
      | none => simp [hf] at h2
      | some x =>
        cases x with
        | none => simp [hf] at h2
        | some b' =>
          simp only [hf] at h2 h3
          have := hp.inj b b' g hl h3.1 hg h2
          subst this
          exact hunbound b hb hbk j (hkey j h1) hf
    have hcompat : ∀ b, hasN kl b = false → S.H b ≠ .dead → Compat w w' μ μ3 S.H H' b := fun b hbk hl => by
      have hbk' : b ∉ kl := fun hm => by rw [hasN_mem.2 hm] at hbk; cases hbk
      rcases hcase b with ⟨j, s, hs, hjb⟩ | hb
      · rcases hρc j with ⟨h1, b', h2, h3⟩ | h1
        · rw [hjb] at h3
          subst h3
          obtain ⟨s0, hs0, hl0, hd0, hv0⟩ := hsrc j h1 b h2
          have hmem := kindIn_mem hs0
          have hs2 := fblks _ hmem
          have htag : s0.tag ≠ 0 → Compat w w' μ μ3 S.H H' b := fun ht => by
            have h4 := hs2.2
            simp only [hs, tagO] at h4
            have hst : s.tag = s0.tag := by
              rw [Bool.or_eq_true] at h4
              rcases h4 with h4 | h4
              · exact absurd (Nat.eq_of_beq_eq_true h4) ht
              · exact Nat.eq_of_beq_eq_true h4
            obtain ⟨x, hx⟩ := unBlks_some o.oblks rr.2 j _ hs
            obtain ⟨y, hy⟩ := unBlks_some o.blks q j _ hs0
            have hxt : (unBlks o.oblks rr.2 j).tag = s.tag := by rw [hx]; exact (unB_kin s x).tag
            have hyt : (unBlks o.blks q j).tag = s0.tag := by rw [hy]; exact (unB_kin s0 y).tag
            obtain ⟨_, hpj⟩ := hpin j h1 (by rw [hxt, hst]; exact ht)
            have hbt : (S.H b).tag = s0.tag := (hv0 (by rw [hyt]; exact ht)).trans hyt
            refine ⟨?_, ?_⟩
            · rw [← hjb, hm3 j _ hs, hpj]
              unfold muB
              rw [h2, hjb]
            · have hd : H' b ≠ .dead := by
                rw [← hjb, hat j _ hs]
                exact renB_live (hlive2 j _ hs)
              cases hSb : S.H b <;> simp only <;> first | exact hd | (rw [hSb] at hbt; exact absurd hbt.symm ht)
          cases s0 with
          | data t => exact absurd (by rw [← hkl]; exact List.mem_append_right _ (List.mem_map.2 ⟨j, mem_dataIds hmem, hjb⟩)) hbk'
          | iter => have := hs2.1.2; simp [notIter] at this
          | vars cs => exact htag (by simp [BSh.tag])
          | mapd kt vt ag => exact absurd (by rw [← hkl]; exact List.mem_append_right _ (List.mem_map.2 ⟨j, mem_dataIds' hmem, hjb⟩)) hbk'
        · have := hlive_lt b hl; omega
      · have hH : H' b = kb kl (S.H b) := by rw [hoff b hb, if_neg hbk']
        refine ⟨hm3' b hb, ?_⟩
        cases hSb : S.H b with
        | dead => exact absurd hSb hl
        | data t l =>
          refine ⟨⟨l, by rw [hH]; exact kb_kind.2.2.2 t l hSb, rfl⟩, fun g n hg hrm => ?_⟩
          exact room_of_heap' (fun _ => hkept b hb hbk' hl g hg) hrm
        | vars cs => simp only; rw [hH]; exact kb_kind.2.1 hl
        | iter s k => simp only; rw [hH]; exact kb_kind.2.1 hl
        | mapd kt vt ag l => simp only; rw [hH]; exact kb_kind.2.1 hl
    have hsl : (hasSl o.out || hasSlB o.oblks) = true → ∀ g, Not F μ3 H' g → Not F' μ2 (unBlks o.oblks rr.2) g := fun hh g hn => by
      rcases hn with hn | hn
      · exact .inl (.inl hn)
      · rcases htrk g hn with h1 | ⟨b, hb, hbk, h1, h2⟩
        · exact .inr h1
        · refine .inl (.inr ⟨b, h1, h2, fun hz => hbk ?_, hunbound b hb hbk⟩)
          rw [← hkl, ← hgone, hh]
          exact List.mem_append_left _ hz
    have hapart : ∀ b g, H' b ≠ .dead → μ3 b = some g → ¬ F g := fun b g hl hg hF => by
      rcases hcase b with ⟨j, s, hs, rfl⟩ | hb
      · rw [hm3 j s hs] at hg
        exact hp2.apart j g (hlive2 j s hs) hg (.inl hF)
      · obtain ⟨_, k2, _, k4⟩ := hold b hb hl
        exact hp.apart b g k2 (by rw [← k4]; exact hg) hF
    have hapart2 : ∀ b g, H' b ≠ .dead → μ3 b = some g → ¬ (tabsOf P).out g := fun b g hl hg hF => by
      rcases hcase b with ⟨j, s, hs, rfl⟩ | hb
      · rw [hm3 j s hs] at hg
        exact hp2.tapart j g (hlive2 j s hs) hg hF
      · obtain ⟨_, k2, _, k4⟩ := hold b hb hl
        exact hp.tapart b g k2 (by rw [← k4]; exact hg) hF
    have hmark2 : ∀ b g, unm (H' b) = true → μ3 b = some g → NoMark w' g := fun b g hl hg => by
      rcases hcase b with ⟨j, s, hs, rfl⟩ | hb
      · rw [hm3 j s hs] at hg
        refine hp2.mark j g ?_ hg
        rw [hat j s hs] at hl
        revert hl
        cases unBlks o.oblks rr.2 j <;> exact id
      · obtain ⟨k1, k2, k3, k4⟩ := hold b hb (fun h => by (rw [h] at hl; cases hl))
        rw [k3, unm_kb] at hl
        rw [k4] at hg
        exact (hp.mark b g hl hg).of_heap (hkept b hb k1 k2 g hg)
    have himold : ∀ j s b g, kindIn o.oblks j = some s → μ2 j = some g → (∀ j s, kindIn o.oblks j = some s → ρ j ≠ b) → b ∉ kl → S.H b ≠ .dead → μ b = some g → False := fun j s b g hs hg hb hbk hl hg' => by
      have hlt := hp.lt b g hl hg'
      rcases hnew g ⟨j, hlive2 j s hs, hg⟩ with ⟨j1, h1, h2⟩ | h1
      · have h3 := hf2 j1 h1
        unfold From at h3
        unfold muB at h2
        cases hf : findB B.m j1 with
        | none => simp [hf] at h2
        | some x =>
          cases x with
          | none => simp [hf] at h2
          | some b' =>
            simp only [hf] at h2 h3
            have := hp.inj b b' g hl h3.1 hg' h2
            subst this
            exact hunbound b hb hbk j1 (hkey j1 h1) hf
      · omega
    have hhp : Hp F μ3 H' (S.nx + (o.blks.length + o.oblks.length)) w' := by
      refine ⟨fun b => ?_, fun b g hl hg => ?_, fun b b' g hl hl' hg hg' => ?_, fun b hb => ?_, hapart, fun g hg => Nat.lt_of_lt_of_le (hp.flt g hg) hchg.size, hp2.tab, hapart2, hmark2⟩
      · rcases hcase b with ⟨j, s, hs, rfl⟩ | hb
        · have hB2 := hp2.blk j
          obtain ⟨x, hx⟩ := unBlks_some o.oblks rr.2 j s hs
          rw [hat j s hs]
          rw [hx] at hB2 ⊢
          have hmem := kindIn_mem hs
          have hs2 := foblks _ hmem
          cases s with
          | vars cs =>
            simp only [unB, RelB, renB] at hB2 ⊢
            rw [hm3 j _ hs]
            rcases hB2 with hB2 | ⟨g, vs, h1, h2, h3, h4⟩
            · exact .inl hB2
            refine .inr ⟨g, vs, h1, ?_, h3, h4⟩
            exact renL_ok hren cs x vs (fun hh => hsl (by rw [hasSlB_vars hmem hh]; simp)) (by simpa [bshOK] using hs2.1.2) h2
          | data t =>
            simp only [unB, RelB, renB] at hB2 ⊢
            rw [hm3 j _ hs]
            rcases hB2 with h1 | ⟨g, h1, h2, h3⟩
            · exact .inl h1
            · refine .inr ⟨g, h1, h2, fun i hi => ?_⟩
              obtain ⟨es, e1, e2, e3⟩ := h3 i hi
              exact ⟨es, e1, e2, RelD_to (fun hh => hsl (by rw [hasSlB_data hmem hh]; simp)) e3⟩
          | iter =>
            simp only [unB, RelB, renB] at hB2 ⊢
            rw [hm3 j _ hs]
            exact hB2
          | mapd kt vt ag =>
            simp only [unB, RelB, renB] at hB2 ⊢
            rw [hm3 j _ hs]
            rcases hB2 with hB2 | ⟨g, es, c, h1, h2, h3, h4⟩
            · exact .inl hB2
            refine .inr ⟨g, es, c, h1, h2, h3, h4.1, fun i a b => ?_⟩
            obtain ⟨r1, cs, r2, r3⟩ := h4.2 i a b
            exact ⟨RelD_to (fun hh => hsl (by rw [hasSlB_map hmem (by rw [hh]; simp)]; simp)) r1, cs, RelD_to (fun hh => hsl (by rw [hasSlB_map hmem (by rw [hh]; simp)]; simp)) r2, r3⟩
        · by_cases hbk : b ∈ kl
          · rw [hoff b hb, if_pos hbk]; simp [RelB]
          · have hH : H' b = kb kl (S.H b) := by rw [hoff b hb, if_neg hbk]
            rw [hH]
            have hB := hp.blk b
            cases hSb : S.H b with
            | dead => rw [kb_kind.1 rfl]; simp [RelB]
            | vars cs =>
              have hlb : S.H b ≠ .dead := by simp [hSb]
              simp only [hSb, RelB] at hB
              have hkb : kb kl (.vars cs) = .vars (kL kl cs) := by cases kl <;> rfl
              rw [hkb]
              simp only [RelB]
              rw [hm3' b hb]
              rcases hB with hB | ⟨g, vs, h1, h2, h3, h4⟩
              · exact .inl hB
              have hsame := hkept b hb hbk hlb g h1
              exact .inr ⟨g, vs, h1, RelVs_kL hk hN hcompat _ _ h2, rowAt_of_heap hsame h3, room_of_heap' (fun _ => hsame) h4⟩
            | data t l =>
              have hlb : S.H b ≠ .dead := by simp [hSb]
              simp only [hSb, RelB] at hB
              rw [kb_kind.2.2.2 t l rfl]
              simp only [RelB]
              rw [hm3' b hb]
              rcases hB with h1 | ⟨g, h1, h2, h3⟩
              · exact .inl h1
              · have hsame := hkept b hb hbk hlb g h1
                refine .inr ⟨g, h1, room_of_heap' (fun _ => hsame) h2, fun i hi => ?_⟩
                obtain ⟨es, e1, e2, e3⟩ := h3 i hi
                exact ⟨es, e1, rowAt_of_heap hsame e2, e3.keep hk hN⟩
            | iter s k =>
              have hlb : S.H b ≠ .dead := by simp [hSb]
              simp only [hSb, RelB] at hB
              obtain ⟨g, h1, h2⟩ := hB
              have hsame := hkept b hb hbk hlb g h1
              have hkb : kb kl (.iter s k) = .iter s k := by cases kl <;> rfl
              rw [hkb]
              simp only [RelB]
              exact ⟨g, by rw [hm3' b hb]; exact h1, by rw [hsame]; exact h2⟩
            | mapd kt vt ag l =>
              have hlb : S.H b ≠ .dead := by simp [hSb]
              simp only [hSb, RelB] at hB
              have hkb : kb kl (.mapd kt vt ag l) = .mapd kt vt ag l := by cases kl <;> rfl
              rw [hkb]
              simp only [RelB]
              rw [hm3' b hb]
              rcases hB with hB | ⟨g, es, c, h1, h2, h3, h4⟩
              · exact .inl hB
              have hsame := hkept b hb hbk hlb g h1
              exact .inr ⟨g, es, c, h1, by rw [hsame]; exact h2, h3, h4.keep hk hN⟩
      · rcases hcase b with ⟨j, s, hs, rfl⟩ | hb
        · rw [hm3 j s hs] at hg
          exact hp2.lt j g (hlive2 j s hs) hg
        · obtain ⟨_, k2, _, k4⟩ := hold b hb hl
          exact Nat.lt_of_lt_of_le (hp.lt b g k2 (by rw [← k4]; exact hg)) hchg.size
      · rcases hcase b with ⟨j, s, hs, rfl⟩ | hb <;> rcases hcase b' with ⟨j', s', hs', rfl⟩ | hb'
        · rw [hm3 j s hs] at hg
          rw [hm3 j' s' hs'] at hg'
          rw [hp2.inj j j' g (hlive2 j s hs) (hlive2 j' s' hs') hg hg']
        · rw [hm3 j s hs] at hg
          obtain ⟨k1, k2, _, k4⟩ := hold b' hb' hl'
          exact (himold j s b' g hs hg hb' k1 k2 (by rw [← k4]; exact hg')).elim
        · rw [hm3 j' s' hs'] at hg'
          obtain ⟨k1, k2, _, k4⟩ := hold b hb hl
          exact (himold j' s' b g hs' hg' hb k1 k2 (by rw [← k4]; exact hg)).elim
        · obtain ⟨_, k2, _, k4⟩ := hold b hb hl
          obtain ⟨_, l2, _, l4⟩ := hold b' hb' hl'
          exact hp.inj b b' g k2 l2 (by rw [← k4]; exact hg) (by rw [← l4]; exact hg')
      · have hb' : ∀ j s, kindIn o.oblks j = some s → ρ j ≠ b := fun j s hs he => by
          have h1 : j < o.blks.length + o.oblks.length := Nat.le_of_ble_eq_true (foblks _ (kindIn_mem hs)).1.1
          rcases hρc j with ⟨h2, b', h3, h4⟩ | h2
          · have := hbl j h2 b' h3; omega
          · omega
        rw [hoff b hb']
        split
        · rfl
        · exact kb_kind.1 (hp.dead b (by omega))
    have hpl : Pl F μ S.H S.nx w kl μ3 H' (S.nx + (o.blks.length + o.oblks.length)) w' := by
      refine ⟨⟨⟨hchg.size, fun g hg hn => hchg.keep g hg fun ht => hn (htrk1 g ht)⟩, hchg.os, hchg.tape, hchg.output⟩, fun g hg => ?_, by omega, fun x v hx => RelV_kv hk hN hcompat x v hx, fun b hb ht => ?_⟩
      · rcases htrk g hg with h1 | ⟨b, _, _, h1, h2⟩
        · exact (hnew g h1).imp (htrk1 g) id
        · exact .inl ⟨b, h1, h2⟩
      · rcases hcase b with ⟨j, s, hs, hjb⟩ | hb'
        · rcases hρc j with ⟨h1, b', h2, h3⟩ | h1
          · rw [hjb] at h3
            subst h3
            rw [← hjb, hat j s hs, tag_renB] at ht
            obtain ⟨h4, h5⟩ := hpin j h1 ht
            obtain ⟨_, _, _, _, hv0⟩ := hsrc j h1 b h2
            refine ⟨?_, ?_⟩
            · rw [← hjb, hat j s hs, tag_renB, hjb, hv0 (by rw [h4]; exact ht), h4]
            · rw [← hjb, hm3 j _ hs, h5]
              unfold muB
              rw [h2, hjb]
          · omega
        · obtain ⟨_, _, k3, k4⟩ := hold b hb' (fun h => ht (by rw [h]; rfl))
          rw [k3, tag_kb]
          exact ⟨rfl, k4⟩
    refine ⟨_, _, μ3, kl, val, hee.ren, hK3, rfl, rfl, hhp, hpl, ?_, fun hnil => ?_⟩
    · exact renV_ok hren o.out rr.1 val (fun hh => hsl (by rw [hh]; rfl)) fout hv2
    · refine ⟨hchg.size, fun g hg _ => hchg.keep g hg fun ⟨j, h1, _⟩ => ?_⟩
      have := hkey j h1
      rw [hnil] at this
      simp at this

end
end Go.Ev
/- Functions that call, and what is known of them. -/
namespace Go.Ev
open Go
section
variable {P : Program} {F : Frm (tabsOf P)} {μ : Nat → Option Nat} {w w' : World} {α : Type} {r : α} {M : FuncId → Bool}

theorem strip_leaf : strip HT.leaf = .leaf := rfl

theorem loopsIn_leaf : ∀ (c : Code), loopsIn c .leaf = []
  | .seq a b => by simp [loopsIn, HT.fst, HT.snd, strip_leaf, loopsIn_leaf a, loopsIn_leaf b]
  | .cond _ a b => by simp [loopsIn, HT.fst, HT.snd, strip_leaf, loopsIn_leaf a, loopsIn_leaf b]
  | .block _ a => by simp [loopsIn, HT.fst, strip_leaf, loopsIn_leaf a]
  | .loop _ => rfl
  | .skip => rfl
  | .exit _ => rfl
  | .ret => rfl
  | .region _ _ _ => rfl
  | .label _ => rfl
  | .goto _ => rfl
  | .scope a => by simp [loopsIn, HT.fst, strip_leaf, loopsIn_leaf a]
  | .rangeFunc _ _ _ _ => rfl
  | .refuse _ => rfl

/-- What the model itself answers, told rightly. -/
def NvOK (P : Program) (f : FuncId) (g : List AV → Option AV) : Prop :=
  ∀ args v, g args = some v → ∀ w N μ H vals, RelVs w N μ H args vals → ∃ val, RelV w N μ H v val ∧ ∀ w1, (callFunc f vals.toArray).run P w1 = .ok (.value val) w1

/-- A function that only yields a value, told by its contract; it may read the tables. -/
def PvOK (P : Program) (f : FuncId) (g : List AV → Option AV) : Prop :=
  Enters P f ∧ ∀ args v, g args = some v → ∀ w N μ H vals, (tabsOf P).tab w → RelVs w N μ H args vals →
    Calls P f vals.toArray w fun e w' => ∃ val, e = .returned val ∧ (∀ w1 N1 μ1 H1, RelV w1 N1 μ1 H1 v val) ∧ RowKit.Below w.heap.size w w'

def YOK (P : Program) (f : FuncId) (g : List AV → Option AV) : Prop := NvOK P f g ∨ PvOK P f g

/-- A deed, told rightly. -/
def ZOK (P : Program) (f : FuncId) (z : Deed) : Prop :=
  Enters P f ∧ ∀ (args : List AV) (S : St) (v : AV) (S' : St), z args S = some (true, v, S') → ∀ (F : Frm (tabsOf P)) μ w vals, Hp F μ S.H S.nx w → RelVs w (Not F μ S.H) μ S.H args vals →
    Calls P f vals.toArray w fun e w' => ∃ μ' kl val, e = .returned val ∧ S'.E = killsE kl S.E ∧ S'.kl = S.kl ++ kl ∧ Hp F μ' S'.H S'.nx w' ∧ Pl F μ S.H S.nx w kl μ' S'.H S'.nx w' ∧ RelV w' (Not F μ' S'.H) μ' S'.H v val

theorem callX_ok (hm : P.follows .mixedOrders = true) {X : FuncId → List AV → Option Orc} {B : FuncId → Option Bool} {Y : FuncId → Option (List AV → Option AV)} {Z : FuncId → Option Deed} {I : FuncId → Bool} (hX : ∀ f args o, X f args = some o → o.OK P f) (hB : ∀ f args o, X f args = some o → ∃ b, B f = some b ∧ (b = true → o.blks = []))
    (hBY : ∀ f b, B f = none → b ∈ Y f → YOK P f b) (hY : ∀ f g, Y f = some g → B f = none) (hZ : ∀ f z, Z f = some z → ZOK P f z ∧ B f = none ∧ Y f = none) (hI : ∀ f, I f = true → Enters P f ∧ B f = none ∧ Y f = none) : ∀ d, CallOK P (callX P X B Y Z I d) (mild B Y)
  | 0 => fun f args S α K r h => by cases h
  | d + 1 => fun f args S α K r h F μ w vals hp hargs => by
    simp only [callX] at h
    cases hXf : X f args with
    | some o =>
      simp only [hXf] at h
      have ho := hX f args o hXf
      refine .inl ⟨fun w1 => ho.enters _ _, (o.call_ok ho h hp hargs).mono fun e w' ⟨v, S', μ', kl, val, h1, h2, h3, h4, h5, h6, h7, h8⟩ => ⟨v, S', μ', kl, val, h1, h2, h3, h4, h5, h6, h7, fun hM => h8 ?_⟩⟩
      obtain ⟨b, hb1, hb2⟩ := hB f args o hXf
      simp only [mild, hb1] at hM
      exact hb2 hM
    | none =>
      simp only [hXf] at h
      cases hYf : Y f with
      | some g =>
        simp only [hYf] at h
        cases hg : g args with
        | none => simp [hg] at h
        | some v =>
          simp only [hg] at h
          obtain ⟨hnp, h⟩ := cond_some h
          rcases hBY f g (hY f g hYf) hYf with hY | ⟨hen, hpv⟩
          · obtain ⟨val, h1, h2⟩ := hY args v hg w _ _ _ vals hargs
            exact .inr ⟨v, val, hnp, h, h1, h2⟩
          · refine .inl ⟨fun w1 => hen _ _, (hpv args v hg w _ _ _ vals hp.tab hargs).mono fun e w' ⟨val, h1, h2, bel⟩ => ?_⟩
            exact ⟨v, S, μ, [], val, (EndR.ret hnp).2 h1, h, rfl, by simp, hp.keep ⟨bel.size, fun g hg _ => bel.block g hg⟩ fun g ⟨b, hb, hg⟩ => bel.block g (hp.lt b g hb hg),
              Pl.keep hp ⟨⟨bel.size, fun g hg _ => bel.block g hg⟩, bel.os, bel.tape, bel.output⟩, h2 _ _ _ _, fun _ => ⟨bel.size, fun g hg _ => bel.block g hg⟩⟩
      | none =>
        simp only [hYf] at h
        cases hZf : Z f with
        | some z =>
          simp only [hZf] at h
          obtain ⟨⟨hen, hz⟩, hb1, hb2⟩ := hZ f z hZf
          cases hza : z args S with
          | none => simp [hza] at h
          | some q =>
            obtain ⟨side, v, S'⟩ := q
            simp only [hza] at h
            obtain ⟨hs, hK⟩ := need_some h
            subst hs
            obtain ⟨hnp, hK⟩ := cond_some hK
            refine .inl ⟨fun w1 => hen _ _, (hz args S v S' hza F μ w vals hp hargs).mono fun e w' ⟨μ', kl, val, h1, h2, h3, h4, h5, h6⟩ => ⟨v, S', μ', kl, val, (EndR.ret hnp).2 h1, hK, h2, h3, h4, h5, h6, fun hM => ?_⟩⟩
            simp [mild, hb1, hb2] at hM
        | none =>
        simp only [hZf] at h
        cases hIf : I f with
        | false => simp [hIf] at h
        | true =>
          cases hfn : P.funcs[f]? with
          | none => simp [hIf, hfn] at h
          | some fn =>
            simp only [hIf, hfn] at h
            obtain ⟨hI1, hI2, hI3⟩ := hI f hIf
            refine .inl ⟨fun w1 => hI1 _ _, ?_⟩
            refine (evFn_ok hm (callX_ok hm hX hB hBY hY hZ hI d) hfn (h := .leaf) (fun c _ x hx => by rw [strip_leaf, loopsIn_leaf] at hx; cases hx) h hp hargs (Nat.zero_le _)).mono ?_
            intro e w' ⟨v, S', μ', a, a', val, h1, h2, h3, h4⟩
            obtain ⟨kl, k1, k2⟩ := h4.pl rfl
            have k3 : S'.kl = kl := by simpa [inSt] using k1
            refine ⟨v, _, μ', kl, val, h1, h2, by simp only; rw [k3], by simp only; rw [k3], h4.rg.hp, k2, h3, fun hM => ?_⟩
            simp [mild, hI2, hI3] at hM

theorem findB_id {n j : Nat} (h : j < n) : findB ((List.range n).map fun j => (j, some j)) j = some (some j) := by
  have key : ∀ l : List Nat, j ∈ l → findB (l.map fun j => (j, some j)) j = some (some j) := by
    intro l
    induction l with
    | nil => intro h; cases h
    | cons x l ih =>
      intro hm
      simp only [List.map_cons, findB]
      cases hx : Nat.beq x j with
      | true => rw [Nat.eq_of_beq_eq_true hx]; rfl
      | false =>
        rcases List.mem_cons.1 hm with rfl | hm
        · simp at hx
        · exact ih hm
  exact key _ (List.mem_range.2 h)

theorem packV_np {H : Nat → Blk} : ∀ (v : VSh) (x : AV) (B : Bd) (K : v.den → Bd → Option α), noPan x = true → packV H v x B K = some r → ∀ p : v.den, noPan (unV v p) = true := fun v x B K _ h p => by
  cases v
  case may v1 v2 => cases x <;> simp [packV] at h
  all_goals rfl

theorem packR_ok {pin : Nat} {bl : List (Nat × BSh)} {H : Nat → Blk} {nx : Nat} (hp : Hp F μ H nx w) (v : VSh) (x : AV) (B : Bd) (K : v.den → Bd → Option α) (val : Value) (e : Ending) (he : EndR e x val) (hx : RelV w (Not F μ H) μ H x val) (h : packR H v x B K = some r) :
    ∃ p B', K p B' = some r ∧ Ext B B' ∧ EndR e (unV v p) val ∧ ∀ (F' : Frm (tabsOf P)) Bf H', Ext B' Bf → Fin F F' μ pin H bl Bf H' → refsOK bl v = true → RelV w (Not F' (muB μ Bf) H') (muB μ Bf) H' (unV v p) val := by
  have plain : noPan x = true → ∀ (v : VSh) (K : v.den → Bd → Option α), packV H v x B K = some r → ∃ p B', K p B' = some r ∧ Ext B B' ∧ EndR e (unV v p) val ∧ ∀ (F' : Frm (tabsOf P)) Bf H', Ext B' Bf → Fin F F' μ pin H bl Bf H' → refsOK bl v = true → RelV w (Not F' (muB μ Bf) H') (muB μ Bf) H' (unV v p) val := fun hn v K h => by
    obtain ⟨p, B', h1, h2, h3⟩ := packV_ok (pin := pin) (bl := bl) hp v x B K val hx h
    exact ⟨p, B', h1, h2, (EndR.ret (packV_np v x B K hn h p)).2 ((EndR.ret hn).1 he), h3⟩
  cases hn : noPan x with
  | true =>
    cases v
    case may v1 v2 =>
      have h' : packV H v1 x B (fun p B => K (Sum.inl p) B) = some r := by
        cases x <;> first | exact h | (simp [noPan] at hn)
      obtain ⟨p, B', h1, h2, h3, h4⟩ := plain hn v1 _ h'
      refine ⟨Sum.inl p, B', h1, h2, h3, fun F' Bf H' g1 g2 g3 => ?_⟩
      simp only [refsOK, Bool.and_eq_true] at g3
      exact h4 F' Bf H' g1 g2 g3.1
    all_goals
      refine plain hn _ K ?_
      cases x <;> first | exact h | (simp [noPan] at hn)
  | false =>
    cases x <;> simp only [noPan, Bool.true_eq_false] at hn
    rename_i y
    cases v
    case may v1 v2 =>
      have h' : packV H v2 y B (fun q B => K (Sum.inr q) B) = some r := h
      simp only [RelV] at hx
      obtain ⟨p, B', h1, h2, h3⟩ := packV_ok (pin := pin) (bl := bl) hp v2 y B _ val hx h'
      refine ⟨Sum.inr p, B', h1, h2, he, fun F' Bf H' g1 g2 g3 => ?_⟩
      simp only [refsOK, Bool.and_eq_true] at g3
      have := h3 F' Bf H' g1 g2 g3.2
      exact this
    all_goals simp [packR] at h

/-- What is told of a function holds, if evaluation says the same. -/
theorem evTop_ok (hm : P.follows .mixedOrders = true) {C : Calling} (hC : CallOK P C M) {f : FuncId} {fn : Func} (hf : P.funcs[f]? = some fn) (hen : Enters P f) {h : HT} {o : Orc} (hfit : o.fits = true)
    (hl : ∀ c, fn.body = some c → ∀ x ∈ loopsIn c (strip h), x.OK P C M o.blks.length fn.ntmps) (hrun : ∀ p r, o.run p = some r → evTop P C M fn h o p = some r) : o.OK P f := by
  refine ⟨hen, hfit, fun p r hr F μ w vals hp hargs => ?_⟩
  have he := hrun p r hr
  unfold evTop at he
  refine (evFn_ok hm hC hf hl he hp hargs (Nat.le_refl _)).mono fun e w' ⟨v, S', μ', a, a', val, h1, h2, h3, h4⟩ => ?_
  have hfits := hfit
  simp only [Orc.fits, Bool.and_eq_true, List.all_eq_true] at hfits
  obtain ⟨⟨⟨⟨⟨fnd, frange⟩, fargs⟩, fout⟩, fblks⟩, foblks⟩ := hfits
  have hp' := h4.rg.hp
  obtain ⟨x, B1, k1, k2, hend, k3⟩ := packR_ok (pin := o.blks.length) (bl := o.oblks) hp' o.out v _ _ val e h1 h3 h2
  obtain ⟨y, B, k4, k5, k6, k7, k8, k9⟩ := packBlks_ok (bl := o.oblks) hp' o.oblks k1
  obtain ⟨hB, k10⟩ := cond_some k4
  simp only [Option.some.injEq] at k10
  have hfin : Fin F F μ' o.blks.length S'.H o.oblks B (unBlks o.oblks y) := ⟨hB, k6, k7, fun _ h => .inl h, fun b g _ hl hm => hp'.apart b g hl hm⟩
  have hhp : Hp F (muB μ' B) (unBlks o.oblks y) (o.blks.length + o.oblks.length) w' := by
    refine hfin.hp hp' (fun j => k9 F B _ (Ext.refl B) hfin (List.all_eq_true.2 fun x hx => (foblks x hx).1.2) j) (fun j hj => ?_) (fun _ b g _ _ hl hm => hp'.apart b g hl hm) hp'.flt
    by_cases hd : unBlks o.oblks y j = .dead
    · exact hd
    · obtain ⟨x, hx, rfl⟩ := k8 j hd
      have := Nat.le_of_ble_eq_true (foblks x hx).1.1
      omega
  have hv := k3 F B _ k5 hfin fout
  subst k10
  refine ⟨val, muB μ' B, _, hend, hhp, hv, h4.chg, fun g hg => h4.new g (hfin.trk hg), fun j hj => (hfin.pinned j hj).trans (h4.pinned j hj)⟩

def noF {T : Tb} : Frm T := ⟨fun _ => False⟩

/-- A statement's function. -/
theorem told {f : FuncId} {A : VSh} {run : A.den × blksDen [] → Option (VSh.den .b × blksDen [])} (ho : Orc.OK P f ⟨A, [], .b, [], run⟩) {p : A.den} (hrun : run (p, ()) = some (true, ())) {vals : List Value} (ht : (tabsOf P).tab w)
    (hargs : RelVs w (Not (noF : Frm (tabsOf P)) (fun _ => none) fun _ => .dead) (fun _ => none) (fun _ => .dead) (unL A p) vals) :
    Calls P f vals.toArray w fun e w' => e = .returned (.bool true) ∧ RowKit.Below w.heap.size w w' := by
  have hp : Hp (noF : Frm (tabsOf P)) (fun _ => none) (unBlks [] ()) 0 w := ⟨fun b => by simp [unBlks, RelB], fun b g h => absurd rfl h, fun b b' g h => absurd rfl h, fun _ _ => rfl, fun b g h => absurd rfl h, fun g h => h.elim, ht, fun b g h => absurd rfl h, fun b g h => by cases h⟩
  refine (ho.run (p, ()) _ hrun noF (fun _ => none) w vals hp hargs).mono fun e w' ⟨val, μ', nx', h1, h2, h3, h4, _⟩ => ⟨?_, h4.os, h4.tape, h4.output, h4.size, fun k hk => h4.keep k hk fun ⟨j, h, _⟩ => h rfl⟩
  have h1 : e = .returned val := h1
  simp only [unV, RelV] at h3
  rw [h1, h3]

/-! Loops. -/
/-- more rounds than any loop ever has -/
def FUEL : Nat := 9223372036854775808

def loopOf {σ τ : Type} (body : σ → Option (σ ⊕ τ)) (p : σ) : Option τ := iter body FUEL p

theorem LoopRec.of {C : Calling} {pin n : Nat} {c : Code} {h : HT} {sh : Shape} {o : Outs} {run : sh.den → Option (outsDen o)} {body : sh.den → Option (sh.den ⊕ outsDen o)} (hrun : run = loopOf body)
    (hb : ∀ p, round P C M pin n c h sh o p = body p) : LoopRec.OK P C M pin n ⟨c, h, sh, o, run⟩ := fun p r hr => by
  have : round P C M pin n c h sh o = body := funext hb
  simp only [hrun, loopOf] at hr
  exact ⟨FUEL, by rw [this]; exact hr⟩

end

/-! What is known, in lists. -/
def lookX : List (FuncId × Orc) → FuncId → List AV → Option Orc
  | [], _, _ => none
  | (g, o) :: r, f, args => cond (Nat.beq g f && fitsFn o.args args) (some o) (lookX r f args)

/-- Functions that are known, and whether they leave all as it is. -/
def lookM : List (FuncId × Orc) → FuncId → Option Bool
  | [], _ => none
  | (g, o) :: r, f => cond (Nat.beq g f) (some ((match o.blks with
    | [] => true
    | _ => false) && (match lookM r f with
    | some b => b
    | none => true))) (lookM r f)

def AllX (P : Program) : List (FuncId × Orc) → Prop
  | [] => True
  | (g, o) :: r => o.OK P g ∧ AllX P r

theorem lookX_ok {P : Program} : ∀ {l : List (FuncId × Orc)}, AllX P l → ∀ f args o, lookX l f args = some o → o.OK P f
  | [], _, f, args, o, h => by cases h
  | (g, o') :: r, h, f, args, o, ho => by
    simp only [lookX] at ho
    cases hb : Nat.beq g f && fitsFn o'.args args with
    | true =>
      simp only [hb, cond_true, Option.some.injEq] at ho
      subst ho
      simp only [Bool.and_eq_true] at hb
      rw [← Nat.eq_of_beq_eq_true hb.1]
      exact h.1
    | false =>
      simp only [hb, cond_false] at ho
      exact lookX_ok h.2 f args o ho

theorem lookM_ok : ∀ {l : List (FuncId × Orc)} {f : FuncId} {args : List AV} {o : Orc}, lookX l f args = some o → ∃ b, lookM l f = some b ∧ (b = true → o.blks = [])
  | [], f, args, o, h => by cases h
  | (g, o') :: r, f, args, o, h => by
    simp only [lookX] at h
    simp only [lookM]
    cases hg : Nat.beq g f with
    | false =>
      simp only [hg, Bool.false_and, cond_false] at h ⊢
      exact lookM_ok h
    | true =>
      refine ⟨_, rfl, fun hb => ?_⟩
      simp only [Bool.and_eq_true] at hb
      cases hf : fitsFn o'.args args with
      | true =>
        simp only [hg, hf, Bool.and_self, cond_true, Option.some.injEq] at h
        subst h
        cases hbl : o'.blks with
        | nil => rfl
        | cons _ _ => rw [hbl] at hb; simp at hb
      | false =>
        simp only [hg, hf, Bool.and_false, cond_false] at h
        obtain ⟨b, h1, h2⟩ := lookM_ok h
        rw [h1] at hb
        exact h2 hb.2

def lookY : List (FuncId × (List AV → Option AV)) → FuncId → Option (List AV → Option AV)
  | [], _ => none
  | (g, o) :: r, f => cond (Nat.beq g f) (some o) (lookY r f)

def AllY (P : Program) : List (FuncId × (List AV → Option AV)) → Prop
  | [] => True
  | (g, o) :: r => YOK P g o ∧ AllY P r

theorem lookY_ok {P : Program} : ∀ {l : List (FuncId × (List AV → Option AV))}, AllY P l → ∀ f o, lookY l f = some o → YOK P f o
  | [], _, f, o, h => by cases h
  | (g, o') :: r, h, f, o, ho => by
    simp only [lookY] at ho
    cases hb : Nat.beq g f with
    | true =>
      simp only [hb, cond_true, Option.some.injEq] at ho
      subst ho
      rw [← Nat.eq_of_beq_eq_true hb]
      exact h.1
    | false =>
      simp only [hb, cond_false] at ho
      exact lookY_ok h.2 f o ho

theorem lookY_mem : ∀ {l : List (FuncId × (List AV → Option AV))} {f : FuncId} {o}, lookY l f = some o → f ∈ l.map (·.1)
  | [], f, o, h => by cases h
  | (g, o') :: r, f, o, ho => by
    simp only [lookY] at ho
    cases hb : Nat.beq g f with
    | true => rw [Nat.eq_of_beq_eq_true hb]; simp
    | false =>
      simp only [hb, cond_false] at ho
      exact List.mem_cons_of_mem _ (lookY_mem ho)

def lookZ : List (FuncId × Deed) → FuncId → Option Deed
  | [], _ => none
  | (g, o) :: r, f => cond (Nat.beq g f) (some o) (lookZ r f)

def AllZ (P : Program) : List (FuncId × Deed) → Prop
  | [] => True
  | (g, o) :: r => ZOK P g o ∧ AllZ P r

theorem lookZ_ok {P : Program} : ∀ {l : List (FuncId × Deed)}, AllZ P l → ∀ f o, lookZ l f = some o → ZOK P f o ∧ f ∈ l.map (·.1)
  | [], _, f, o, h => by cases h
  | (g, o') :: r, h, f, o, ho => by
    simp only [lookZ] at ho
    cases hb : Nat.beq g f with
    | true =>
      simp only [hb, cond_true, Option.some.injEq] at ho
      subst ho
      rw [← Nat.eq_of_beq_eq_true hb]
      exact ⟨h.1, by simp⟩
    | false =>
      simp only [hb, cond_false] at ho
      exact ⟨(lookZ_ok h.2 f o ho).1, List.mem_cons_of_mem _ (lookZ_ok h.2 f o ho).2⟩

def AllI (P : Program) : List FuncId → Prop
  | [] => True
  | g :: r => Enters P g ∧ AllI P r

theorem inL_ok {P : Program} : ∀ {l : List FuncId}, AllI P l → ∀ f, hasN l f = true → Enters P f := by
  intro l
  induction l with
  | nil => intro _ f h; cases h
  | cons g r ih =>
    intro h f hf
    have hm := hasN_mem.1 hf
    rcases List.mem_cons.1 hm with rfl | hm
    · exact h.1
    · exact ih h.2 f (hasN_mem.2 hm)

def isNn {β : Type} : Option β → Bool
  | none => true
  | some _ => false

theorem isNn_eq {β : Type} {x : Option β} (h : isNn x = true) : x = none := by
  cases x with
  | none => rfl
  | some _ => cases h

/-- No number is in two of the lists. -/
def apartL (X : List (FuncId × Orc)) (Y : List (FuncId × (List AV → Option AV))) (Z : List (FuncId × Deed)) (I : List FuncId) : Bool :=
  (Y.all fun y => isNn (lookM X y.1)) && (Z.all fun z => isNn (lookM X z.1) && isNn (lookY Y z.1)) && (I.all fun i => isNn (lookM X i) && isNn (lookY Y i))

def bodyOf (fn : Func) : Code :=
  match fn.body with
  | some c => c
  | none => .skip

/-- A part of a piece of code. -/
def subc : Code → List Bool → Code
  | .seq a b, x :: r => subc (cond x b a) r
  | .cond _ a b, x :: r => subc (cond x b a) r
  | .block _ c, _ :: r => subc c r
  | .scope c, _ :: r => subc c r
  | .loop c, _ :: r => subc c r
  | c, _ => c

def AllL (P : Program) (C : Calling) (M : FuncId → Bool) (pin n : Nat) : List LoopRec → Prop
  | [] => True
  | l :: r => l.OK P C M pin n ∧ AllL P C M pin n r

theorem AllL.mem {P : Program} {C : Calling} {M : FuncId → Bool} {pin n : Nat} : ∀ {l : List LoopRec}, AllL P C M pin n l → ∀ x ∈ l, x.OK P C M pin n
  | _ :: _, h, x, hx => by
    rcases List.mem_cons.1 hx with rfl | hx
    · exact h.1
    · exact AllL.mem h.2 x hx

/-- One function, from what is known of those that it calls. -/
theorem ok_of {P : Program} (hm : P.follows .mixedOrders = true) {X : List (FuncId × Orc)} {Y : List (FuncId × (List AV → Option AV))} {Z : List (FuncId × Deed)} {I : List FuncId} {d : Nat} (hX : AllX P X) (hY : AllY P Y) (hZ : AllZ P Z) (hI : AllI P I) (hap : apartL X Y Z I = true) {f : FuncId} {fn : Func} (hf : P.funcs[f]? = some fn) (hen : Enters P f)
    {c : Code} (hc : fn.body = some c) {h : HT} {o : Orc} (hfit : o.fits = true) {ls : List LoopRec} (hls : loopsIn c (strip h) = ls) (hl : AllL P (callX P (lookX X) (lookM X) (lookY Y) (lookZ Z) (hasN I) d) (mild (lookM X) (lookY Y)) o.blks.length fn.ntmps ls)
    (hrun : ∀ p, evTop P (callX P (lookX X) (lookM X) (lookY Y) (lookZ Z) (hasN I) d) (mild (lookM X) (lookY Y)) fn h o p = o.run p) : o.OK P f := by
  simp only [apartL, Bool.and_eq_true, List.all_eq_true] at hap
  obtain ⟨⟨a1, a2⟩, a3⟩ := hap
  exact evTop_ok hm (callX_ok hm (lookX_ok hX) (fun f args o h => lookM_ok h) (fun f b _ hb => lookY_ok hY f b hb) (fun f g h => by
      obtain ⟨y, hy, rfl⟩ := List.mem_map.1 (lookY_mem h)
      exact isNn_eq (a1 y hy)) (fun f z h => by
      obtain ⟨h1, h2⟩ := lookZ_ok hZ f z h
      obtain ⟨y, hy, rfl⟩ := List.mem_map.1 h2
      exact ⟨h1, isNn_eq (a2 y hy).1, isNn_eq (a2 y hy).2⟩) (fun f h => ⟨inL_ok hI f h, isNn_eq (a3 f (hasN_mem.1 h)).1, isNn_eq (a3 f (hasN_mem.1 h)).2⟩) d) hf hen hfit (fun c' hc' x hx => by
    rw [hc] at hc'
    cases hc'
    rw [hls] at hx
    exact hl.mem x hx) fun p r h => (hrun p).trans h

end Go.Ev
/- Laws of loops. -/
namespace Go.Ev
open Go

theorem iter_ind {σ τ : Type} {f : σ → Option (σ ⊕ τ)} {I : σ → Prop} {μ : σ → Nat} {Q : τ → Prop}
    (step : ∀ p, I p → (∃ q, f p = some (.inl q) ∧ I q ∧ μ q < μ p) ∨ ∃ r, f p = some (.inr r) ∧ Q r) : ∀ (n : Nat) (p : σ), I p → μ p < n → ∃ r, iter f n p = some r ∧ Q r
  | 0, _, _, h => absurd h (Nat.not_lt_zero _)
  | n + 1, p, hI, h => by
    simp only [iter]
    rcases step p hI with ⟨q, h1, h2, h3⟩ | ⟨r, h1, h2⟩
    · rw [h1]
      exact iter_ind step n q h2 (by omega)
    · rw [h1]
      exact ⟨r, rfl, h2⟩

/-- A loop with an invariant and a measure. -/
theorem loop_ind {σ τ : Type} {f : σ → Option (σ ⊕ τ)} (I : σ → Prop) (μ : σ → Nat) (Q : τ → Prop)
    (step : ∀ p, I p → (∃ q, f p = some (.inl q) ∧ I q ∧ μ q < μ p) ∨ ∃ r, f p = some (.inr r) ∧ Q r) {p : σ} (hI : I p) (hμ : μ p < FUEL) : ∃ r, loopOf f p = some r ∧ Q r :=
  iter_ind step FUEL p hI hμ

theorem FUEL_big : (9223372036854775807 : Nat) / 2 < FUEL := by unfold FUEL; omega

end Go.Ev
/- Arguments that come in, read as plain data. -/
namespace Go.Ev
open Go Go.WideShapes

/-- Data that fit. -/
def fitD : (t : Ty) → t.den → Prop
  | .int k, n => (Lit.int k n).wf = true
  | .u8, _ => True
  | .bool, _ => True
  | .str, l => List.length l ≤ maxLen
  | .sl t, l => List.length l ≤ maxLen ∧ ∀ x ∈ l, fitD t x
  | .unit, _ => True
  | .pair a b, p => fitD a p.1 ∧ fitD b p.2

def layF (P : Program) (q : TypeId → Bool) : List Field → Nat → Nat → Bool
  | [], off, n => Nat.beq off n
  | f :: r, off, n => Nat.beq f.offset off && q f.type && layF P q r (off + P.cellsOf f.type) n

/-- The program lays values of a type out as we do. -/
def layB (P : Program) : Nat → TypeId → Bool
  | 0, _ => false
  | d + 1, t => match P.underlying t with
    | some (.int _) => true
    | some .bool => true
    | some .string => true
    | some (.slice e) => layB P d e && (match tyOf P d e with
        | some y => Nat.beq (P.cellsOf e) y.size && Nat.ble 1 y.size
        | none => false)
    | some (.struct fs) => layF P (layB P d) fs.toList 0 (P.cellsOf t)
    | _ => false

section
variable {P : Program} {w : World} {H : Type} {enc : TypeId × Value → H} {base : Nat} {spare : Nat → Bool} {held : Bool}

theorem mapM_idx {α β : Type} {f : α → Option β} : ∀ {l : List α} {r : List β}, l.mapM f = some r → ∀ (i : Nat) x, l[i]? = some x → ∃ y, r[i]? = some y ∧ f x = some y
  | [], r, h, i, x, hx => by simp at hx
  | a :: l, r, h, i, x, hx => by
    simp only [List.mapM_cons, Option.pure_def, Option.bind_eq_bind, Option.bind_eq_some_iff, Option.some.injEq] at h
    obtain ⟨b, h1, bs, h2, rfl⟩ := h
    cases i with
    | zero => simp at hx; subst hx; exact ⟨b, by simp, h1⟩
    | succ i => simp at hx; obtain ⟨y, h3, h4⟩ := mapM_idx h2 i x hx; exact ⟨y, by simpa using h3, h4⟩

/-- What the data of a type is said to be, for one fuel. -/
def Opens (P : Program) (w : World) (enc : TypeId × Value → H) (base : Nat) (spare : Nat → Bool) (held : Bool) (d : Nat) : Prop :=
  ∀ (fuel : Nat) (t : TypeId) (y : Ty) (cs : List Value) (x : DataW H × List MemPlace), tyOf P d t = some y → layB P d t = true → DataW.trod enc P w base spare held fuel t cs = some x → ∃ v : y.den, RelD w (fun _ => False) y v cs ∧ fitD y v

theorem open_fields {d : Nat} (ih : Opens P w enc base spare held d) {n : Nat} : ∀ (fs : List Field) (off : Nat) (y : Ty) (cs : List Value),
    fs.foldr (fun f r => match tyOf P d f.type, r with
        | some a, some b => some (Ty.pair a b)
        | _, _ => none) (some .unit) = some y →
    layF P (layB P d) fs off cs.length = true → (∀ f ∈ fs, ∃ x, DataW.trod enc P w base spare held n f.type ((cs.drop f.offset).take (P.cellsOf f.type)) = some x) →
    ∃ v : y.den, RelD w (fun _ => False) y v (cs.drop off) ∧ fitD y v
  | [], off, y, cs, hy, hl, _ => by
    simp only [List.foldr_nil, Option.some.injEq] at hy
    subst hy
    simp only [layF] at hl
    have := Nat.eq_of_beq_eq_true hl
    subst this
    exact ⟨(), by simp [RelD], trivial⟩
  | f :: fs, off, y, cs, hy, hl, hm => by
    simp only [List.foldr_cons] at hy
    cases ha : tyOf P d f.type with
    | none => simp [ha] at hy
    | some a =>
      cases hb : fs.foldr (fun f r => match tyOf P d f.type, r with
        | some a, some b => some (Ty.pair a b)
        | _, _ => none) (some .unit) with
      | none => rw [hb] at hy; simp [ha] at hy
      | some b =>
        rw [hb] at hy
        simp only [ha, Option.some.injEq] at hy
        subst hy
        simp only [layF, Bool.and_eq_true] at hl
        obtain ⟨⟨h1, h2⟩, h3⟩ := hl
        have h1 := Nat.eq_of_beq_eq_true h1
        obtain ⟨z, hz⟩ := hm f (by simp)
        rw [h1] at hz
        obtain ⟨v1, g1, g2⟩ := ih n f.type a _ z ha h2 hz
        obtain ⟨v2, g3, g4⟩ := open_fields ih fs (off + P.cellsOf f.type) b cs hb h3 fun f' hf' => hm f' (List.mem_cons_of_mem _ hf')
        refine ⟨(v1, v2), ?_, g2, g4⟩
        simp only [RelD]
        refine ⟨_, _, ?_, g1, g3⟩
        rw [← List.drop_drop, List.take_append_drop]

theorem pick_list {β : Type} {Q : Nat → β → Prop} : ∀ (n : Nat), (∀ i, i < n → ∃ x, Q i x) → ∃ l : List β, l.length = n ∧ ∀ i, (h : i < l.length) → Q i l[i]
  | 0, _ => ⟨[], rfl, fun i h => by simp at h⟩
  | n + 1, h => by
    obtain ⟨l, h1, h2⟩ := pick_list n fun i hi => h i (by omega)
    obtain ⟨x, hx⟩ := h n (by omega)
    refine ⟨l ++ [x], by simp [h1], fun i hi => ?_⟩
    simp only [List.length_append, List.length_cons, List.length_nil] at hi
    rcases Nat.lt_or_ge i l.length with hlt | hge
    · rw [List.getElem_append_left hlt]; exact h2 i hlt
    · have : i = n := by omega
      subst this
      rw [List.getElem_append_right hge]
      simpa [h1] using hx

theorem cells_row {a : Addr} {n : Nat} {es : List Value} (hs : a.spot = none) (h : w.cells? base a n = some es) : es.length = n ∧ rowAt w a.block a.off es := by
  obtain ⟨_, h1, h2⟩ := World.cells?_some h
  refine ⟨h1, fun i hi => ?_⟩
  have := h2 i (by omega)
  obtain ⟨b, o, s⟩ := a
  simp only at hs
  subst hs
  rw [add_none] at this
  rw [this]
  simp [hi]

theorem opens : ∀ d, Opens P w enc base spare held d
  | 0 => fun fuel t y cs x hy => by simp [tyOf] at hy
  | d + 1 => fun fuel t y cs x hy hl h => by
    have ih : Opens P w enc base spare held d := opens d
    unfold layB at hl
    unfold tyOf at hy
    cases hu : P.underlying t with
    | none => simp [hu] at hl
    | some u =>
      simp only [hu] at hl hy
      cases u <;> simp only [Bool.false_eq_true] at hl
      case int k =>
        obtain ⟨n, rfl, _, hw⟩ := DataW.trod_int hu h
        cases k <;> simp only [Option.some.injEq] at hy <;> subst hy
        case u8 =>
          have hw' : 0 ≤ n ∧ n ≤ 255 := by simpa [Lit.wf, IntKind.min, IntKind.max, IntKind.signed, IntKind.bits] using hw
          refine ⟨UInt8.ofNat n.toNat, ?_, trivial⟩
          have hn : ((UInt8.ofNat n.toNat).toNat : Int) = n := by
            simp only [UInt8.toNat_ofNat']
            omega
          simp only [RelD, hn]
        all_goals exact ⟨n, by simp [RelD], hw⟩
      case bool =>
        obtain ⟨b, rfl, _⟩ := DataW.trod_bool hu h
        simp only [Option.some.injEq] at hy
        subst hy
        exact ⟨b, by simp [RelD], trivial⟩
      case string =>
        obtain ⟨s, rfl, _, hs⟩ := DataW.trod_string hu h
        simp only [Option.some.injEq] at hy
        subst hy
        exact ⟨s.data.toList, by simp [RelD], by simpa [fitD] using hs⟩
      case slice e =>
        simp only [Bool.and_eq_true] at hl
        obtain ⟨hl1, hl2⟩ := hl
        cases ht : tyOf P d e with
        | none => simp [ht] at hy
        | some ye =>
          simp only [ht, Option.map_some, Option.some.injEq] at hy
          subst hy
          simp only [ht, Bool.and_eq_true] at hl2
          have hsz := Nat.eq_of_beq_eq_true hl2.1
          have hpos := Nat.le_of_ble_eq_true hl2.2
          rcases DataW.trod_slice hu h with ⟨rfl, _⟩ | ⟨a, len, cap, elems, rest, n, _, rfl, _, hb, hlc, hcm, hel, heach, _⟩
          · exact ⟨[], ⟨none, 0, rfl, Nat.le_refl _, fun hp => absurd hp (by simp)⟩, by simp [fitD]⟩
          · have hev : ∀ i, i < len → ∃ (x : ye.den), ∃ es, w.cells? base (a.add (i * P.cellsOf e)) (P.cellsOf e) = some es ∧ RelD w (fun _ => False) ye x es ∧ fitD ye x := fun i hi => by
              have h1 := heach i hi
              have h2 : elems[i]? = some (elems[i]'(by omega)) := List.getElem?_eq_getElem _
              rw [h2, Option.bind_eq_some_iff] at h1
              obtain ⟨es, h3, h4⟩ := h1
              obtain ⟨v, g1, g2⟩ := ih n e ye es _ ht hl1 h4
              exact ⟨v, es, h3, g1, g2⟩
            obtain ⟨l, hl3, hl4⟩ := pick_list len hev
            have hspot : 0 < len → a.spot = none ∧ a.block < w.heap.size := fun hp => by
              obtain ⟨es, h3, _⟩ := hl4 0 (by omega)
              obtain ⟨_, h5, h6⟩ := World.cells?_some h3
              have h7 := h6 0 (by omega)
              have h8 : es[0]? = some (es[0]'(by omega)) := List.getElem?_eq_getElem _
              rw [h8] at h7
              have h9 : (a.add (0 * P.cellsOf e)).add 0 = a := by simp [Addr.add]
              rw [h9] at h7
              exact ⟨World.cell?_spot h7, World.block_lt_of_cell? w _ h7⟩
            refine ⟨l, ?_, ?_⟩
            · simp only [RelD]
              refine ⟨some a, cap, by rw [hl3], by omega, fun hp => ?_⟩
              obtain ⟨h1, h2⟩ := hspot (by omega)
              refine ⟨a.block, a.off, ?_, fun h => h, h2, fun i hi => ?_⟩
              · obtain ⟨b, o, s⟩ := a
                simp only at h1
                subst h1
                rfl
              · obtain ⟨es, h3, h4, _⟩ := hl4 i hi
                have hsp : (a.add (i * P.cellsOf e)).spot = none := by
                  unfold Addr.add; split
                  · exact h1
                  · rfl
                obtain ⟨h5, h6⟩ := cells_row hsp h3
                refine ⟨es, by rw [h5, hsz], ?_, h4⟩
                have hbo : (a.add (i * P.cellsOf e)).block = a.block ∧ (a.add (i * P.cellsOf e)).off = a.off + i * ye.size := by
                  unfold Addr.add
                  split
                  · rename_i h0; rw [← hsz, h0]; exact ⟨rfl, rfl⟩
                  · rw [← hsz]; exact ⟨rfl, rfl⟩
                rw [hbo.1, hbo.2] at h6
                exact h6
            · simp only [fitD]
              refine ⟨by omega, fun x hx => ?_⟩
              obtain ⟨i, hi, rfl⟩ := List.getElem_of_mem hx
              obtain ⟨_, _, _, h5⟩ := hl4 i hi
              exact h5
      case struct fs =>
        obtain ⟨xs, n, _, _, hlen, hxl, heach⟩ := DataW.trod_struct hu h
        have := open_fields ih (n := n) fs.toList 0 y cs hy (by rw [hlen]; exact hl) fun f hf => by
          obtain ⟨i, hi, he⟩ := List.getElem_of_mem hf
          have hi' : i < fs.size := by simpa using hi
          have h1 := heach i f (by rw [Array.getElem?_eq_getElem hi']; simpa using he)
          have h2 : xs[i]? = some (xs[i]'(by omega)) := List.getElem?_eq_getElem _
          rw [h2] at h1
          exact ⟨_, h1⟩
        simpa using this

/-- An argument, as plain data. -/
theorem open_arg {t : TypeId} {v : Value} {dv : DataW H} {ps : List MemPlace} (y : Ty) (hy : tyOf P 12 t = some y) (hl : layB P 12 t = true) (h : DataW.Trod enc P w base spare held t v dv ps) : ∃ x : y.den, RelD w (fun _ => False) y x v.cells.toList ∧ fitD y x := by
  obtain ⟨fuel, h⟩ := h
  exact opens 12 fuel t y _ _ hy hl h

theorem noN {T : Tb} (g : Nat) : ¬ Not (noF : Frm T) (fun _ => none) (fun _ => .dead) g := fun h => h.elim id fun ⟨_, h, _⟩ => h rfl

/-- An argument, as cells. -/
theorem open_arg' {T : Tb} {t : TypeId} {v : Value} {dv : DataW H} {ps : List MemPlace} (y : Ty) (hy : tyOf P 12 t = some y) (hl : layB P 12 t = true) (h : DataW.Trod enc P w base spare held t v dv ps) :
    ∃ x : y.den, RelVs w (Not (noF : Frm T) (fun _ => none) fun _ => .dead) (fun _ => none) (fun _ => .dead) (encc y x) v.cells.toList ∧ fitD y x := by
  obtain ⟨x, h1, h2⟩ := open_arg y hy hl h
  exact ⟨x, RelVs_encc (h1.keep (Keep.refl w) fun g _ hn => (noN g hn).elim), h2⟩

/-- One that is no struct. -/
theorem arg_one {t : TypeId} {r : Reach} {b : Nat} {v : Value} {x : AV} {N : Nat → Prop} {μ : Nat → Option Nat} {Hh : Nat → Blk} (hs : ∀ fs, P.underlying t ≠ some (.struct fs)) (ha : ∀ n e, P.underlying t ≠ some (.array n e)) (hv : Value.okWide P w r b t v)
    (h : RelVs w N μ Hh [x] v.cells.toList) : RelV w N μ Hh x v := by
  simp only [RelVs] at h
  obtain ⟨v1, vr, h1, h2, rfl⟩ := h
  have hne : ∀ cs, v ≠ .agg cs := fun cs hc => by
    subst hc
    unfold Value.okWide at hv
    cases hu : P.underlying t with
    | none => simp [hu, Cell.okWide, Cell.ok] at hv
    | some u => cases u <;> simp_all [Cell.okWide, Cell.ok]
  have hcells : v.cells.toList = [v] := by cases v <;> first | rfl | exact absurd rfl (hne _)
  rw [hcells] at h1
  simp only [List.cons.injEq, and_true] at h1
  rw [h1]
  exact h2

/-- One that is a struct. -/
theorem arg_struct {t : TypeId} {fs : Array Field} {r : Reach} {b : Nat} {v : Value} {cs : List AV} {N : Nat → Prop} {μ : Nat → Option Nat} {Hh : Nat → Blk} (ht : P.underlying t = some (.struct fs)) (hv : Value.okWide P w r b t v)
    (h : RelVs w N μ Hh cs v.cells.toList) : RelV w N μ Hh (.agg cs) v := by
  obtain ⟨vs, rfl, _⟩ := okWide_struct ht hv
  simp only [RelV]
  exact ⟨vs.toList, by simp, h⟩

end
end Go.Ev
/- Arguments that come in, read as plain data that are no greater than what is said of them. -/
namespace Go.Ev
open Go Go.WideShapes

/-- How much data hold. -/
def sizD : (t : Ty) → t.den → Nat
  | .int _, _ => 1
  | .u8, _ => 1
  | .bool, _ => 1
  | .str, l => List.length l + 1
  | .sl t, l => (List.map (sizD t) l).sum
  | .unit, _ => 0
  | .pair a b, p => sizD a p.1 + sizD b p.2

theorem sizD_u8 (l : List UInt8) : sizD (.sl .u8) l = l.length := by
  show (List.map (sizD .u8) l).sum = l.length
  induction l with
  | nil => rfl
  | cons a l ih => rw [List.map_cons, List.sum_cons, ih, List.length_cons]; show 1 + l.length = _; omega

/-- A measure of what a datum holds. -/
structure Bulk {H : Type} (bulk : DataW H → Nat) : Prop where
  str : ∀ b, b.length + 1 ≤ bulk (.lit (.string b))
  lit : ∀ l, 1 ≤ bulk (.lit l)
  sl : ∀ es sp, (List.map bulk es).sum ≤ bulk (.slice es sp)
  agg : ∀ ps, (List.map bulk ps).sum ≤ bulk (.agg ps)

section
variable {P : Program} {w : World} {H : Type} {enc : TypeId × Value → H} {base : Nat} {spare : Nat → Bool} {held : Bool} {bulk : DataW H → Nat}

def OpensB (bulk : DataW H → Nat) (P : Program) (w : World) (enc : TypeId × Value → H) (base : Nat) (spare : Nat → Bool) (held : Bool) (d : Nat) : Prop :=
  ∀ (fuel : Nat) (t : TypeId) (y : Ty) (cs : List Value) (x : DataW H × List MemPlace), tyOf P d t = some y → layB P d t = true → DataW.trod enc P w base spare held fuel t cs = some x → ∃ v : y.den, RelD w (fun _ => False) y v cs ∧ fitD y v ∧ sizD y v ≤ bulk x.1

theorem open_fieldsB {d : Nat} (ih : OpensB bulk P w enc base spare held d) {n : Nat} : ∀ (fs : List Field) (off : Nat) (y : Ty) (cs : List Value) (xs : List (DataW H × List MemPlace)),
    fs.foldr (fun f r => match tyOf P d f.type, r with
        | some a, some b => some (Ty.pair a b)
        | _, _ => none) (some .unit) = some y →
    layF P (layB P d) fs off cs.length = true → xs.length = fs.length → (∀ (i : Nat) f, fs[i]? = some f → DataW.trod enc P w base spare held n f.type ((cs.drop f.offset).take (P.cellsOf f.type)) = xs[i]?) →
    ∃ v : y.den, RelD w (fun _ => False) y v (cs.drop off) ∧ fitD y v ∧ sizD y v ≤ (List.map bulk (xs.map (·.1))).sum
  | [], off, y, cs, xs, hy, hl, hx, _ => by
    simp only [List.foldr_nil, Option.some.injEq] at hy
    subst hy
    simp only [layF] at hl
    have := Nat.eq_of_beq_eq_true hl
    subst this
    exact ⟨(), by simp [RelD], trivial, Nat.zero_le _⟩
  | f :: fs, off, y, cs, [], hy, hl, hx, hm => by simp at hx
  | f :: fs, off, y, cs, x :: xs, hy, hl, hx, hm => by
    simp only [List.foldr_cons] at hy
    cases ha : tyOf P d f.type with
    | none => simp [ha] at hy
    | some a =>
      cases hb : fs.foldr (fun f r => match tyOf P d f.type, r with
        | some a, some b => some (Ty.pair a b)
        | _, _ => none) (some .unit) with
      | none => rw [hb] at hy; simp [ha] at hy
      | some b =>
        rw [hb] at hy
        simp only [ha, Option.some.injEq] at hy
        subst hy
        simp only [layF, Bool.and_eq_true] at hl
        obtain ⟨⟨h1, h2⟩, h3⟩ := hl
        have h1 := Nat.eq_of_beq_eq_true h1
        have hz := hm 0 f (by simp)
        rw [h1, show (x :: xs)[0]? = some x by simp] at hz
        obtain ⟨v1, g1, g2, g5⟩ := ih n f.type a _ x ha h2 hz
        obtain ⟨v2, g3, g4, g6⟩ := open_fieldsB ih fs (off + P.cellsOf f.type) b cs xs hb h3 (by simpa using hx) fun i f' hf' => by
          have := hm (i + 1) f' (by simpa using hf')
          simpa using this
        refine ⟨(v1, v2), ?_, ⟨g2, g4⟩, ?_⟩
        · simp only [RelD]
          refine ⟨_, _, ?_, g1, g3⟩
          rw [← List.drop_drop, List.take_append_drop]
        · simp only [sizD, List.map_cons, List.sum_cons]
          omega

theorem sum_le_idx {α β : Type} (f : α → Nat) (g : β → Nat) : ∀ (l : List α) (r : List β), l.length = r.length → (∀ i, (h : i < l.length) → (h' : i < r.length) → f l[i] ≤ g r[i]) → (l.map f).sum ≤ (r.map g).sum
  | [], _, _, _ => Nat.zero_le _
  | a :: l, [], h, _ => by simp at h
  | a :: l, b :: r, h, hi => by
    have h0 := hi 0 (by simp) (by simp)
    have ih := sum_le_idx f g l r (by simpa using h) fun i h1 h2 => by
      have := hi (i + 1) (by simp; omega) (by simp; omega)
      simpa using this
    simp only [List.map_cons, List.sum_cons]
    simp only [List.getElem_cons_zero] at h0
    omega

theorem opensB (hB : Bulk bulk) : ∀ d, OpensB bulk P w enc base spare held d
  | 0 => fun fuel t y cs x hy => by simp [tyOf] at hy
  | d + 1 => fun fuel t y cs x hy hl h => by
    have ih : OpensB bulk P w enc base spare held d := opensB hB d
    unfold layB at hl
    unfold tyOf at hy
    cases hu : P.underlying t with
    | none => simp [hu] at hl
    | some u =>
      simp only [hu] at hl hy
      cases u <;> simp only [Bool.false_eq_true] at hl
      case int k =>
        obtain ⟨n, rfl, hx, hw⟩ := DataW.trod_int hu h
        have hb : 1 ≤ bulk x.1 := by rw [hx]; exact hB.lit _
        cases k <;> simp only [Option.some.injEq] at hy <;> subst hy
        case u8 =>
          have hw' : 0 ≤ n ∧ n ≤ 255 := by simpa [Lit.wf, IntKind.min, IntKind.max, IntKind.signed, IntKind.bits] using hw
          refine ⟨UInt8.ofNat n.toNat, ?_, trivial, hb⟩
          have hn : ((UInt8.ofNat n.toNat).toNat : Int) = n := by
            simp only [UInt8.toNat_ofNat']
            omega
          simp only [RelD, hn]
        all_goals exact ⟨n, by simp [RelD], hw, hb⟩
      case bool =>
        obtain ⟨b, rfl, hx⟩ := DataW.trod_bool hu h
        have hb : 1 ≤ bulk x.1 := by rw [hx]; exact hB.lit _
        simp only [Option.some.injEq] at hy
        subst hy
        exact ⟨b, by simp [RelD], trivial, hb⟩
      case string =>
        obtain ⟨s, rfl, hx, hs⟩ := DataW.trod_string hu h
        have hb : s.data.toList.length + 1 ≤ bulk x.1 := by rw [hx]; exact hB.str _
        simp only [Option.some.injEq] at hy
        subst hy
        exact ⟨s.data.toList, by simp [RelD], by simpa [fitD] using hs, hb⟩
      case slice e =>
        simp only [Bool.and_eq_true] at hl
        obtain ⟨hl1, hl2⟩ := hl
        cases ht : tyOf P d e with
        | none => simp [ht] at hy
        | some ye =>
          simp only [ht, Option.map_some, Option.some.injEq] at hy
          subst hy
          simp only [ht, Bool.and_eq_true] at hl2
          have hsz := Nat.eq_of_beq_eq_true hl2.1
          have hpos := Nat.le_of_ble_eq_true hl2.2
          rcases DataW.trod_slice hu h with ⟨rfl, _⟩ | ⟨a, len, cap, elems, rest, n, _, rfl, hx, hb, hlc, hcm, hel, heach, _⟩
          · exact ⟨[], ⟨none, 0, rfl, Nat.le_refl _, fun hp => absurd hp (by simp)⟩, by simp [fitD], Nat.zero_le _⟩
          · have hev : ∀ i, i < len → ∃ (x : ye.den), ∃ es, w.cells? base (a.add (i * P.cellsOf e)) (P.cellsOf e) = some es ∧ RelD w (fun _ => False) ye x es ∧ fitD ye x ∧ ∀ z, elems[i]? = some z → sizD ye x ≤ bulk z.1 := fun i hi => by
              have h1 := heach i hi
              have h2 : elems[i]? = some (elems[i]'(by omega)) := List.getElem?_eq_getElem _
              rw [h2, Option.bind_eq_some_iff] at h1
              obtain ⟨es, h3, h4⟩ := h1
              obtain ⟨v, g1, g2, g3⟩ := ih n e ye es _ ht hl1 h4
              exact ⟨v, es, h3, g1, g2, fun z hz => by rw [h2, Option.some.injEq] at hz; rw [← hz]; exact g3⟩
            obtain ⟨l, hl3, hl4⟩ := pick_list len hev
            have hspot : 0 < len → a.spot = none ∧ a.block < w.heap.size := fun hp => by
              obtain ⟨es, h3, _⟩ := hl4 0 (by omega)
              obtain ⟨_, h5, h6⟩ := World.cells?_some h3
              have h7 := h6 0 (by omega)
              have h8 : es[0]? = some (es[0]'(by omega)) := List.getElem?_eq_getElem _
              rw [h8] at h7
              have h9 : (a.add (0 * P.cellsOf e)).add 0 = a := by simp [Addr.add]
              rw [h9] at h7
              exact ⟨World.cell?_spot h7, World.block_lt_of_cell? w _ h7⟩
            refine ⟨l, ?_, ?_, ?_⟩
            · simp only [RelD]
              refine ⟨some a, cap, by rw [hl3], by omega, fun hp => ?_⟩
              obtain ⟨h1, h2⟩ := hspot (by omega)
              refine ⟨a.block, a.off, ?_, fun h => h, h2, fun i hi => ?_⟩
              · obtain ⟨b, o, s⟩ := a
                simp only at h1
                subst h1
                rfl
              · obtain ⟨es, h3, h4, _⟩ := hl4 i hi
                have hsp : (a.add (i * P.cellsOf e)).spot = none := by
                  unfold Addr.add; split
                  · exact h1
                  · rfl
                obtain ⟨h5, h6⟩ := cells_row hsp h3
                refine ⟨es, by rw [h5, hsz], ?_, h4⟩
                have hbo : (a.add (i * P.cellsOf e)).block = a.block ∧ (a.add (i * P.cellsOf e)).off = a.off + i * ye.size := by
                  unfold Addr.add
                  split
                  · rename_i h0; rw [← hsz, h0]; exact ⟨rfl, rfl⟩
                  · rw [← hsz]; exact ⟨rfl, rfl⟩
                rw [hbo.1, hbo.2] at h6
                exact h6
            · simp only [fitD]
              refine ⟨by omega, fun x hx => ?_⟩
              obtain ⟨i, hi, rfl⟩ := List.getElem_of_mem hx
              obtain ⟨_, _, _, h5, _⟩ := hl4 i hi
              exact h5
            · rw [hx]
              refine Nat.le_trans ?_ (hB.sl _ _)
              rw [List.map_map]
              exact sum_le_idx (sizD ye) (bulk ∘ fun x => x.1) l elems (by omega) fun i h1 h2 => by
                obtain ⟨_, _, _, _, h5⟩ := hl4 i h1
                exact h5 _ (List.getElem?_eq_getElem h2)
      case struct fs =>
        obtain ⟨xs, n, _, hx, hlen, hxl, heach⟩ := DataW.trod_struct hu h
        obtain ⟨v, h1, h2, h3⟩ := open_fieldsB ih (n := n) fs.toList 0 y cs xs hy (by rw [hlen]; exact hl) (by simpa using hxl) fun i f hf => heach i f (by simpa using hf)
        refine ⟨v, by simpa using h1, h2, Nat.le_trans h3 ?_⟩
        rw [hx]
        exact hB.agg _

/-- An argument, as cells. -/
theorem open_argB (hB : Bulk bulk) {T : Tb} {t : TypeId} {v : Value} {dv : DataW H} {ps : List MemPlace} (y : Ty) (hy : tyOf P 12 t = some y) (hl : layB P 12 t = true) (h : DataW.Trod enc P w base spare held t v dv ps) :
    ∃ x : y.den, RelVs w (Not (noF : Frm T) (fun _ => none) fun _ => .dead) (fun _ => none) (fun _ => .dead) (encc y x) v.cells.toList ∧ fitD y x ∧ sizD y x ≤ bulk dv := by
  obtain ⟨fuel, h⟩ := h
  obtain ⟨x, h1, h2, h3⟩ := opensB hB 12 fuel t y _ _ hy hl h
  exact ⟨x, RelVs_encc (h1.keep (Keep.refl w) fun g _ hn => (noN g hn).elim), h2, h3⟩

end
end Go.Ev
/- Loops that go through a list. -/
namespace Go.Ev
open Go

/-- A walk through a list, that may end ahead of its end. -/
def foldS {α β τ : Type} (step : α → β → β ⊕ τ) (fin : β → τ) : β → List α → τ
  | b, [] => fin b
  | b, a :: t => match step a b with
    | .inl c => foldS step fin c t
    | .inr r => r

theorem walk_iter {α β σ τ : Type} {f : σ → Option (σ ⊕ τ)} {mk : β → Nat → σ} {ls : List α} {step : α → β → β ⊕ τ} {fin : β → τ} {I : β → Nat → Prop}
    (h1 : ∀ b i a, I b i → i < ls.length → (∀ d, ls.getD i d = a) → (∃ c, step a b = .inl c ∧ I c (i + 1) ∧ f (mk b i) = some (.inl (mk c (i + 1)))) ∨ (∃ r, step a b = .inr r ∧ f (mk b i) = some (.inr r)))
    (h2 : ∀ b, I b ls.length → f (mk b ls.length) = some (.inr (fin b))) : ∀ (n : Nat) (b : β) (i : Nat) (t : List α), I b i → i ≤ ls.length → ls.drop i = t → t.length < n → iter f n (mk b i) = some (foldS step fin b t)
  | 0, _, _, _, _, _, _, h => absurd h (Nat.not_lt_zero _)
  | n + 1, b, i, [], hI, hi, ht, _ => by
    have hl : ls.length ≤ i := List.drop_eq_nil_iff.mp ht
    simp only [iter, foldS]
    obtain rfl : i = ls.length := by omega
    rw [h2 b hI]
  | n + 1, b, i, a :: t, hI, _, ht, hn => by
    have hl : i < ls.length := by
      rcases Nat.lt_or_ge i ls.length with h | h
      · exact h
      · rw [List.drop_eq_nil_iff.mpr h] at ht; cases ht
    have e := List.drop_eq_getElem_cons hl
    rw [ht] at e
    obtain ⟨e1, e2⟩ := List.cons.inj e
    simp only [iter, foldS]
    rcases h1 b i a hI hl (fun d => by rw [e1, List.getD_eq_getElem?_getD, List.getElem?_eq_getElem hl]; rfl) with ⟨c, q1, q2, q3⟩ | ⟨r, q1, q3⟩
    · rw [q3, q1]
      exact walk_iter h1 h2 n c (i + 1) t q2 hl e2.symm (by simp only [List.length_cons] at hn; omega)
    · rw [q3, q1]

/-- A loop through a list, with an invariant. -/
theorem walk_listI {α β σ τ : Type} {f : σ → Option (σ ⊕ τ)} (mk : β → Nat → σ) (ls : List α) (step : α → β → β ⊕ τ) (fin : β → τ) (I : β → Nat → Prop)
    (h1 : ∀ b i a, I b i → i < ls.length → (∀ d, ls.getD i d = a) → (∃ c, step a b = .inl c ∧ I c (i + 1) ∧ f (mk b i) = some (.inl (mk c (i + 1)))) ∨ (∃ r, step a b = .inr r ∧ f (mk b i) = some (.inr r)))
    (h2 : ∀ b, I b ls.length → f (mk b ls.length) = some (.inr (fin b))) (hn : ls.length < FUEL) {b : β} (hI : I b 0) : loopOf f (mk b 0) = some (foldS step fin b ls) :=
  walk_iter h1 h2 FUEL b 0 ls hI (Nat.zero_le _) rfl hn

/-- A loop through a list. -/
theorem walk_list {α β σ τ : Type} {f : σ → Option (σ ⊕ τ)} (mk : β → Nat → σ) (ls : List α) (step : α → β → β ⊕ τ) (fin : β → τ)
    (h1 : ∀ b i a, i < ls.length → (∀ d, ls.getD i d = a) → f (mk b i) = some (match step a b with | .inl c => .inl (mk c (i + 1)) | .inr r => .inr r))
    (h2 : ∀ b, f (mk b ls.length) = some (.inr (fin b))) (hn : ls.length < FUEL) {b : β} : loopOf f (mk b 0) = some (foldS step fin b ls) :=
  walk_listI mk ls step fin (fun _ _ => True) (fun b i a _ hi ha => by
    have h := h1 b i a hi ha
    cases e : step a b with
    | inl c => rw [e] at h; exact .inl ⟨c, rfl, trivial, h⟩
    | inr r => rw [e] at h; exact .inr ⟨r, rfl, h⟩) (fun b _ => h2 b) hn trivial

theorem w64_id {n : Int} (h1 : -9223372036854775808 ≤ n) (h2 : n ≤ 9223372036854775807) : w64 n = n := by
  unfold w64 IntKind.wrap
  simp only [IntKind.bits, IntKind.signed]
  by_cases h : n % 2 ^ 64 ≥ 2 ^ 63
  · simp; omega
  · simp; omega

theorem w64_nat {n : Nat} (h : n < 9223372036854775807) : w64 ((n : Int) + 1) = ((n + 1 : Nat) : Int) := by
  rw [show ((n + 1 : Nat) : Int) = (n : Int) + 1 from by omega]
  exact w64_id (by omega) (by omega)

theorem nat_lt {i n : Nat} : decide ((i : Int) < (n : Int)) = decide (i < n) := by simp
theorem nat_nn {i : Nat} : decide ((0 : Int) ≤ (i : Int)) = true := by simp

end Go.Ev
/- What the model itself answers for some functions of the library that have no body. -/
namespace Go.Ev
open Go

def nvCount : List AV → Option AV
  | [.s l, .u c] => some (.i .i64 (Lib.countByte l c : Nat))
  | _ => none

def nvIndexByte : List AV → Option AV
  | [.s l, .u c] => some (.i .i64 (Lib.indexByte l c))
  | _ => none

section
variable {P : Program} {f : FuncId} {fn : Func}

theorem byte_back (c : UInt8) : ((c.toNat : Int).toNat).toUInt8 = c := by simp

theorem nvCount_ok (hf : P.funcs[f]? = some fn) (hname : (fn.name == "runtime.NumGoroutine") = false) (hb : fn.body.isNone = true) (hn : Extern.findNext fn = none) (he : Extern.find fn = some Extern.BytealgCount.count) : NvOK P f nvCount := by
  intro args v h w N μ H vals hr
  unfold nvCount at h
  split at h
  · rename_i l c
    simp only [Option.some.injEq] at h
    subst h
    simp only [RelVs, RelV] at hr
    obtain ⟨_, _, rfl, rfl, _, _, rfl, rfl, rfl⟩ := hr
    refine ⟨_, rfl, fun w1 => ?_⟩
    rw [run_callFunc_extern hf hname hb hn he, Lib.run_countString, byte_back]
    rfl
  · cases h

theorem nvIndexByte_ok (hf : P.funcs[f]? = some fn) (hname : (fn.name == "runtime.NumGoroutine") = false) (hb : fn.body.isNone = true) (hn : Extern.findNext fn = none) (he : Extern.find fn = some Extern.BytealgIndexByte.indexByte) : NvOK P f nvIndexByte := by
  intro args v h w N μ H vals hr
  unfold nvIndexByte at h
  split at h
  · rename_i l c
    simp only [Option.some.injEq] at h
    subst h
    simp only [RelVs, RelV] at hr
    obtain ⟨_, _, rfl, rfl, _, _, rfl, rfl, rfl⟩ := hr
    refine ⟨_, rfl, fun w1 => ?_⟩
    rw [run_callFunc_extern hf hname hb hn he, Lib.run_indexByteString, byte_back]
    rfl
  · cases h

end
end Go.Ev
/- Functions of the library that are told by their contracts. -/
namespace Go.Ev
open Go

def nvDecode : List AV → Option AV
  | [.s l] => some (.tup [.i .i32 ((Lib.decodeGo ⟨l.toArray⟩).1 : Nat), .i .i64 ((Lib.decodeGo ⟨l.toArray⟩).2 : Nat)])
  | _ => none

theorem nvDecode_ok {P : Program} {f : FuncId} {g3 g4 : Nat} (hen : Enters P f) (h3 : globAt P "unicode/utf8.first" = some g3) (h4 : globAt P "unicode/utf8.acceptRanges" = some g4)
    (hc : ∀ s w, Lib.Utf8Tabs g3 g4 w → Calls P f #[.string s] w fun e w' => e = .returned (.tuple #[.int .i32 (Lib.decodeGo s).1, .int .i64 (Lib.decodeGo s).2]) ∧ RowKit.Below w.heap.size w w') : YOK P f nvDecode := by
  refine .inr ⟨hen, fun args v h w N μ H vals ht hr => ?_⟩
  unfold nvDecode at h
  split at h
  · rename_i l
    simp only [Option.some.injEq] at h
    subst h
    simp only [RelVs, RelV] at hr
    obtain ⟨_, _, rfl, rfl, rfl⟩ := hr
    refine (hc _ w (ht.1 g3 g4 h3 h4)).mono fun e w' ⟨he, bel⟩ => ⟨_, he, fun w1 N1 μ1 H1 => ?_, bel⟩
    simp only [RelV, RelVs]
    exact ⟨_, rfl, _, _, rfl, rfl, _, _, rfl, rfl, rfl⟩
  · cases h

end Go.Ev
/- Deeds: what functions of the library do to slices of their own, told by their contracts. -/
namespace Go.Ev
open Go Go.Proofs

/-- strings.Contains -/
def zContains : Deed := fun args S => match args with
  | [.s a, .s b] => some (decide (a.length < 4294967281), .b (Lib.contains a b), S)
  | _ => none

theorem zContains_ok {P : Program} {f : FuncId} {g : Nat} (hen : Enters P f) (hg : globAt P "internal/bytealg.MaxLen" = some g)
    (hc : ∀ (s sub : ByteArray) (m : Int) (w : World), s.size < 4294967281 → w.cell? ⟨g, 0, none⟩ = some (.int .i64 m) → Calls P f #[.string s, .string sub] w fun e w' => e = .returned (.bool (Lib.contains s.data.toList sub.data.toList)) ∧ w' = w) : ZOK P f zContains := by
  refine ⟨hen, fun args S v S' h F μ w vals hp hr => ?_⟩
  unfold zContains at h
  split at h
  · rename_i a b
    simp only [Option.some.injEq, Prod.mk.injEq, decide_eq_true_eq] at h
    obtain ⟨h1, rfl, rfl⟩ := h
    simp only [RelVs, RelV] at hr
    obtain ⟨_, _, rfl, rfl, _, _, rfl, rfl, rfl⟩ := hr
    obtain ⟨m, hm⟩ := hp.tab.2 g hg
    refine (hc ⟨a.toArray⟩ ⟨b.toArray⟩ m w (by simpa [ByteArray.size] using h1) hm).mono fun e w' ⟨he, hw⟩ => ?_
    subst hw
    exact ⟨μ, [], _, he, rfl, by simp, hp, Pl.keep hp (Chg.refl _), by simp [RelV]⟩
  · cases h
end Go.Ev
/- Functions of the library that only yield values, told by their contracts where something holds. -/
namespace Go.Ev
open Go Go.Proofs

abbrev Pvs := List AV → Option (Bool × AV)

def PvsOK (P : Program) (f : FuncId) (g : Pvs) : Prop :=
  Enters P f ∧ ∀ args v, g args = some (true, v) → ∀ w N μ H vals, (tabsOf P).tab w → RelVs w N μ H args vals →
    Calls P f vals.toArray w fun e w' => ∃ val, e = .returned val ∧ (∀ w1 N1 μ1 H1, RelV w1 N1 μ1 H1 v val) ∧ RowKit.Below w.heap.size w w'

def zPv (g : Pvs) : Deed := fun args S => match g args with
  | some (b, v) => some (b, v, S)
  | none => none

theorem zPv_ok {P : Program} {f : FuncId} {g : Pvs} (h : PvsOK P f g) : ZOK P f (zPv g) := by
  refine ⟨h.1, fun args S v S' hz F μ w vals hp hr => ?_⟩
  unfold zPv at hz
  split at hz
  · rename_i b v' hg
    simp only [Option.some.injEq, Prod.mk.injEq] at hz
    obtain ⟨rfl, rfl, rfl⟩ := hz
    refine (h.2 args v' hg w _ _ _ vals hp.tab hr).mono fun e w' ⟨val, h1, h2, bel⟩ => ?_
    exact ⟨μ, [], val, h1, rfl, by simp, hp.keep ⟨bel.size, fun g hg _ => bel.block g hg⟩ fun g ⟨b, hb, hg⟩ => bel.block g (hp.lt b g hb hg),
      Pl.keep hp ⟨⟨bel.size, fun g hg _ => bel.block g hg⟩, bel.os, bel.tape, bel.output⟩, h2 _ _ _ _⟩
  · cases hz

def ascii (l : List UInt8) : Bool := l.all fun b => decide (b.toNat < 128)

theorem ascii_at {l : List UInt8} (h : ascii l = true) : ∀ (j : Nat) b, l[j]? = some b → b.toNat < 128 := fun j b hb => by
  have := List.all_eq_true.mp h b (List.mem_of_getElem? hb)
  exact of_decide_eq_true this

def pTrim : Pvs
  | [.s l, .s c] => some (decide (l.length ≤ 9223372036854775807) && decide (c.length < 4294967281) && ascii c, .s (Lib.trimS l c))
  | _ => none

theorem pTrim_ok {P : Program} {f : FuncId} (hen : Enters P f)
    (hc : ∀ (s c : ByteArray) (w : World), s.size ≤ 9223372036854775807 → c.size < 4294967281 → (∀ (j : Nat) b, c.data.toList[j]? = some b → b.toNat < 128) →
      Calls P f #[.string s, .string c] w fun e w' => e = .returned (.string ⟨(Lib.trimS s.data.toList c.data.toList).toArray⟩) ∧ RowKit.Below w.heap.size w w') : ZOK P f (zPv pTrim) := by
  refine zPv_ok ⟨hen, fun args v h w N μ H vals ht hr => ?_⟩
  unfold pTrim at h
  split at h
  · rename_i l c
    simp only [Option.some.injEq, Prod.mk.injEq, Bool.and_eq_true, decide_eq_true_eq] at h
    obtain ⟨⟨⟨h1, h2⟩, h3⟩, rfl⟩ := h
    simp only [RelVs, RelV] at hr
    obtain ⟨_, _, rfl, rfl, _, _, rfl, rfl, rfl⟩ := hr
    refine (hc ⟨l.toArray⟩ ⟨c.toArray⟩ w (by simpa [ByteArray.size] using h1) (by simpa [ByteArray.size] using h2) (by simpa using ascii_at h3)).mono fun e w' ⟨he, bel⟩ => ⟨_, he, fun w1 N1 μ1 H1 => ?_, bel⟩
    simp [RelV]
  · cases h

def pCut : Pvs
  | [.s l, .s c] => some (decide (l.length < 4294967281), .tup [.s (Lib.cut l c).1, .s (Lib.cut l c).2.1, .b (Lib.cut l c).2.2])
  | _ => none

theorem pCut_ok {P : Program} {f : FuncId} {g : Nat} (hen : Enters P f) (hg : globAt P "internal/bytealg.MaxLen" = some g)
    (hc : ∀ (s c : ByteArray) (m : Int) (w : World), s.size < 4294967281 → w.cell? ⟨g, 0, none⟩ = some (.int .i64 m) →
      Calls P f #[.string s, .string c] w fun e w' => e = .returned (.tuple #[.string ⟨(Lib.cut s.data.toList c.data.toList).1.toArray⟩, .string ⟨(Lib.cut s.data.toList c.data.toList).2.1.toArray⟩, .bool (Lib.cut s.data.toList c.data.toList).2.2]) ∧ RowKit.Below w.heap.size w w') : ZOK P f (zPv pCut) := by
  refine zPv_ok ⟨hen, fun args v h w N μ H vals ht hr => ?_⟩
  unfold pCut at h
  split at h
  · rename_i l c
    simp only [Option.some.injEq, Prod.mk.injEq, decide_eq_true_eq] at h
    obtain ⟨h1, rfl⟩ := h
    simp only [RelVs, RelV] at hr
    obtain ⟨_, _, rfl, rfl, _, _, rfl, rfl, rfl⟩ := hr
    obtain ⟨m, hm⟩ := ht.2 g hg
    refine (hc ⟨l.toArray⟩ ⟨c.toArray⟩ m w (by simpa [ByteArray.size] using h1) hm).mono fun e w' ⟨he, bel⟩ => ⟨_, he, fun w1 N1 μ1 H1 => ?_, bel⟩
    simp only [RelV, RelVs]
    exact ⟨_, rfl, _, _, rfl, rfl, _, _, rfl, rfl, _, _, rfl, rfl, rfl⟩
  · cases h

def pContainsAny : Pvs
  | [.s l, .s c] => some (decide (l.length < 4294967281) && decide (c.length < 4294967281) && ascii l && ascii c, .b (Lib.containsAny l c))
  | _ => none

theorem pContainsAny_ok {P : Program} {f : FuncId} (hen : Enters P f)
    (hc : ∀ (s c : ByteArray) (w : World), s.size < 4294967281 → c.size < 4294967281 → (∀ (j : Nat) b, s.data.toList[j]? = some b → b.toNat < 128) → (∀ (j : Nat) b, c.data.toList[j]? = some b → b.toNat < 128) →
      Calls P f #[.string s, .string c] w fun e w' => e = .returned (.bool (Lib.containsAny s.data.toList c.data.toList)) ∧ RowKit.Below w.heap.size w w') : ZOK P f (zPv pContainsAny) := by
  refine zPv_ok ⟨hen, fun args v h w N μ H vals ht hr => ?_⟩
  unfold pContainsAny at h
  split at h
  · rename_i l c
    simp only [Option.some.injEq, Prod.mk.injEq, Bool.and_eq_true, decide_eq_true_eq] at h
    obtain ⟨⟨⟨⟨h1, h2⟩, h3⟩, h4⟩, rfl⟩ := h
    simp only [RelVs, RelV] at hr
    obtain ⟨_, _, rfl, rfl, _, _, rfl, rfl, rfl⟩ := hr
    refine (hc ⟨l.toArray⟩ ⟨c.toArray⟩ w (by simpa [ByteArray.size] using h1) (by simpa [ByteArray.size] using h2) (by simpa using ascii_at h3) (by simpa using ascii_at h4)).mono fun e w' ⟨he, bel⟩ => ⟨_, he, fun w1 N1 μ1 H1 => ?_, bel⟩
    simp [RelV]
  · cases h

def pHasPrefix : Pvs
  | [.s l, .s c] => some (true, .b (Lib.hasPrefix l c))
  | _ => none

theorem pHasPrefix_ok {P : Program} {f : FuncId} (hen : Enters P f)
    (hc : ∀ (s c : ByteArray) (w : World), Calls P f #[.string s, .string c] w fun e w' => e = .returned (.bool (Lib.hasPrefix s.data.toList c.data.toList)) ∧ w' = w) : ZOK P f (zPv pHasPrefix) := by
  refine zPv_ok ⟨hen, fun args v h w N μ H vals ht hr => ?_⟩
  unfold pHasPrefix at h
  split at h
  · rename_i l c
    simp only [Option.some.injEq, Prod.mk.injEq, true_and] at h
    subst h
    simp only [RelVs, RelV] at hr
    obtain ⟨_, _, rfl, rfl, _, _, rfl, rfl, rfl⟩ := hr
    refine (hc ⟨l.toArray⟩ ⟨c.toArray⟩ w).mono fun e w' ⟨he, hw⟩ => ⟨_, he, fun w1 N1 μ1 H1 => ?_, hw ▸ RowKit.Below.refl _ _⟩
    simp [RelV]
  · cases h

def pIndexByte : Pvs
  | [.s l, .u c] => some (true, .i .i64 (Lib.indexByte l c))
  | _ => none

theorem pIndexByte_ok {P : Program} {f : FuncId} (hen : Enters P f)
    (hc : ∀ (s : ByteArray) (c : Int) (w : World), Calls P f #[.string s, .int .u8 c] w fun e w' => e = .returned (.int .i64 (Lib.indexByte s.data.toList c.toNat.toUInt8)) ∧ w' = w) : ZOK P f (zPv pIndexByte) := by
  refine zPv_ok ⟨hen, fun args v h w N μ H vals ht hr => ?_⟩
  unfold pIndexByte at h
  split at h
  · rename_i l c
    simp only [Option.some.injEq, Prod.mk.injEq, true_and] at h
    subst h
    simp only [RelVs, RelV] at hr
    obtain ⟨_, _, rfl, rfl, _, _, rfl, rfl, rfl⟩ := hr
    refine (hc ⟨l.toArray⟩ (c.toNat : Int) w).mono fun e w' ⟨he, hw⟩ => ⟨_, he, fun w1 N1 μ1 H1 => ?_, hw ▸ RowKit.Below.refl _ _⟩
    simp [RelV]
  · cases h

/-- the cells of bytes -/
theorem sl_cells {w : World} {N : Nat → Prop} {l : List UInt8} {v : Value} (h : RelD w N (.sl .u8) l [v]) (h0 : l ≠ []) :
    ∃ (a : Addr) (c : Nat), v = .slice (some a) l.length c ∧ l.length ≤ c ∧ ∀ i, i < l.length → w.cell? (a.add i) = some (.int .u8 ((Lib.numsL l).getD i 0)) := by
  simp only [RelD] at h
  obtain ⟨a, c, h1, h2, h3⟩ := h
  obtain ⟨g, o, rfl, _, hg, hrow⟩ := h3 (List.length_pos_iff.mpr h0)
  injection h1 with h1 _
  refine ⟨⟨g, o, none⟩, c, h1, h2, fun i hi => ?_⟩
  obtain ⟨es, e1, e2, e3⟩ := hrow i hi
  subst e3
  have := e2 0 (by simp)
  simp only [Ty.size, Nat.mul_one, Nat.add_zero, List.getElem_cons_zero] at this
  rw [add_none, this]
  simp [Lib.numsL, hi]

def pBytesIndexByte : Pvs
  | [.sl .u8 l, .u c] => some (!(List.isEmpty (α := UInt8) l), .i .i64 (Lib.indexByte l c))
  | _ => none

theorem pBytesIndexByte_ok {P : Program} {f : FuncId} (hen : Enters P f)
    (hc : ∀ (a : Addr) (n c : Nat) (xs : List Int) (cv : Int) (w : World), xs.length = n → (∀ i, i < n → w.cell? (a.add i) = some (.int .u8 (xs.getD i 0))) →
      Calls P f #[.slice (some a) n c, .int .u8 cv] w fun e w' => e = .returned (.int .i64 (Lib.indexByte (Lib.bytesOf xs) cv.toNat.toUInt8)) ∧ w' = w) : ZOK P f (zPv pBytesIndexByte) := by
  refine zPv_ok ⟨hen, fun args v h w N μ H vals ht hr => ?_⟩
  unfold pBytesIndexByte at h
  split at h
  · rename_i l c
    simp only [Option.some.injEq, Prod.mk.injEq, Bool.not_eq_true'] at h
    obtain ⟨h1, rfl⟩ := h
    have h0 : l ≠ [] := fun e => by rw [e] at h1; cases h1
    simp only [RelVs, RelV] at hr
    obtain ⟨_, _, rfl, hl, _, _, rfl, rfl, rfl⟩ := hr
    obtain ⟨a, cc, rfl, _, hcell⟩ := sl_cells hl h0
    refine (hc a l.length cc (Lib.numsL l) (c.toNat : Int) w (Lib.numsL_length l) hcell).mono fun e w' ⟨he, hw⟩ => ⟨_, he, fun w1 N1 μ1 H1 => ?_, hw ▸ RowKit.Below.refl _ _⟩
    rw [Lib.bytesOf_numsL]
    simp [RelV]
  · cases h

/-- Nothing is known of it. -/
theorem Orc.OK.none {P : Program} {f : FuncId} {a : VSh} {bs : List (Nat × BSh)} {o : VSh} {obs : List (Nat × BSh)} (hen : Enters P f) (hf : (⟨a, bs, o, obs, fun _ => Option.none⟩ : Orc).fits = true) : (⟨a, bs, o, obs, fun _ => Option.none⟩ : Orc).OK P f := ⟨hen, hf, fun p r h => by cases h⟩

end Go.Ev
/- Functions of the library that read slices of the caller's own, or tell new ones that nothing writes. -/
namespace Go.Ev
open Go Go.Proofs

abbrev Pvr := List AV → (Nat → Blk) → Option (Bool × AV)

def PvrOK (P : Program) (f : FuncId) (g : Pvr) : Prop :=
  Enters P f ∧ ∀ args H nx v, g args H = some (true, v) → ∀ (F : Frm (tabsOf P)) μ w vals, Hp F μ H nx w → RelVs w (Not F μ H) μ H args vals →
    Calls P f vals.toArray w fun e w' => ∃ val, e = .returned val ∧ RelV w' (Not F μ H) μ H v val ∧ RowKit.Below w.heap.size w w'

def zPvr (g : Pvr) : Deed := fun args S => match g args S.H with
  | some (b, v) => some (b, v, S)
  | none => none

theorem zPvr_ok {P : Program} {f : FuncId} {g : Pvr} (h : PvrOK P f g) : ZOK P f (zPvr g) := by
  refine ⟨h.1, fun args S v S' hz F μ w vals hp hr => ?_⟩
  unfold zPvr at hz
  split at hz
  · rename_i b v' hg
    simp only [Option.some.injEq, Prod.mk.injEq] at hz
    obtain ⟨rfl, rfl, rfl⟩ := hz
    refine (h.2 args S.H S.nx v' hg F μ w vals hp hr).mono fun e w' ⟨val, h1, h2, bel⟩ => ?_
    exact ⟨μ, [], val, h1, rfl, by simp, hp.keep ⟨bel.size, fun g hg _ => bel.block g hg⟩ fun g ⟨b, hb, hg⟩ => bel.block g (hp.lt b g hb hg),
      Pl.keep hp ⟨⟨bel.size, fun g hg _ => bel.block g hg⟩, bel.os, bel.tape, bel.output⟩, h2⟩
  · cases hz

/-- a slice of the caller's own, and its cells -/
theorem wh_cells {T : Tb} {F : Frm T} {μ : Nat → Option Nat} {H : Nat → Blk} {nx : Nat} {w : World} (hp : Hp F μ H nx w) {b : Nat} {t : Ty} {l : List t.den} (hb : H b = .data t l) {v : Value} (hv : RelV w (Not F μ H) μ H (.wh b) v) (h0 : l ≠ []) :
    ∃ (g c : Nat), v = .slice (some ⟨g, 0, none⟩) l.length c ∧ l.length ≤ c ∧ g < w.heap.size ∧ ∀ i, (h : i < l.length) → ∃ es, es.length = t.size ∧ rowAt w g (i * t.size) es ∧ RelD w (Not F μ H) t (l[i]'h) es := by
  simp only [RelV] at hv
  obtain ⟨t', l', hb', hv⟩ := hv
  rw [hb] at hb'
  injection hb' with e1 e2
  subst e1
  have e2 := eq_of_heq e2
  subst e2
  rcases hv with ⟨g, c, h1, h2, h3, _⟩ | ⟨_, h2, _⟩
  · have hrow := hp.blk b
    simp only [hb, RelB] at hrow
    rcases hrow with ⟨hn, _⟩ | ⟨g', hm', _, hrows⟩
    · rw [h1] at hn; cases hn
    · rw [h1] at hm'
      cases hm'
      exact ⟨g, c, h2, h3, hp.lt b g (by rw [hb]; simp) h1, hrows⟩
  · exact absurd h2 h0

theorem own_bytes {T : Tb} {F : Frm T} {μ : Nat → Option Nat} {H : Nat → Blk} {nx : Nat} {w : World} (hp : Hp F μ H nx w) {b : Nat} {l : List UInt8} (hb : H b = .data .u8 l) {v : Value} (hv : RelV w (Not F μ H) μ H (.wh b) v) (h0 : l ≠ []) :
    ∃ (a : Addr) (c : Nat), v = .slice (some a) l.length c ∧ l.length ≤ c ∧ ∀ i, i < l.length → w.cell? (a.add i) = some (.int .u8 ((Lib.numsL l).getD i 0)) := by
  obtain ⟨g, c, h1, h2, _, h3⟩ := wh_cells (t := .u8) hp hb hv h0
  refine ⟨⟨g, 0, none⟩, c, h1, h2, fun i hi => ?_⟩
  obtain ⟨es, e1, e2, e3⟩ := h3 i hi
  simp only [RelD] at e3
  subst e3
  have := e2 0 (by simp)
  simp only [Ty.size, Nat.mul_one, Nat.add_zero, List.getElem_cons_zero] at this
  rw [add_none, Nat.zero_add, this]
  simp [Lib.numsL, hi]

/-- bytes.Index of data, by a separator of one's own -/
def pIndex : Pvr
  | [.sl .u8 l, .wh b], H => match H b with
    | .data .u8 p => some (!(List.isEmpty (α := UInt8) l) && decide (l.length < 4294967281) && !(List.isEmpty (α := UInt8) p) && decide (p.length ≤ 9223372036854775807), .i .i64 (Lib.index l p))
    | _ => none
  | _, _ => none

theorem pIndex_ok {P : Program} {f : FuncId} {g : Nat} (hen : Enters P f) (hg : globAt P "internal/bytealg.MaxLen" = some g)
    (hc : ∀ (a1 a2 : Addr) (n c1 k c2 : Nat) (xs ys : List Int) (m : Int) (w : World), xs.length = n → ys.length = k → (∀ x ∈ xs, 0 ≤ x ∧ x < 256) → (∀ y ∈ ys, 0 ≤ y ∧ y < 256) →
      (∀ i, i < n → w.cell? (a1.add i) = some (.int .u8 (xs.getD i 0))) → (∀ i, i < k → w.cell? (a2.add i) = some (.int .u8 (ys.getD i 0))) → n ≤ c1 → n < 4294967281 → k ≤ 9223372036854775807 → w.cell? ⟨g, 0, none⟩ = some (.int .i64 m) →
      Calls P f #[.slice (some a1) n c1, .slice (some a2) k c2] w fun e w' => e = .returned (.int .i64 (Lib.index (Lib.bytesOf xs) (Lib.bytesOf ys))) ∧ RowKit.Below w.heap.size w w') : ZOK P f (zPvr pIndex) := by
  refine zPvr_ok ⟨hen, fun args H nx v h F μ w vals hp hr => ?_⟩
  unfold pIndex at h
  split at h
  · rename_i l b
    split at h
    · rename_i p hb
      simp only [Option.some.injEq, Prod.mk.injEq, Bool.and_eq_true, decide_eq_true_eq, Bool.not_eq_true'] at h
      obtain ⟨⟨⟨⟨h1, h2⟩, h3⟩, h4⟩, rfl⟩ := h
      have l0 : l ≠ [] := fun e => by rw [e] at h1; cases h1
      have p0 : p ≠ [] := fun e => by rw [e] at h3; cases h3
      simp only [RelVs] at hr
      obtain ⟨v1, _, rfl, hl, v2, _, rfl, hw, rfl⟩ := hr
      have hl' : RelD w (Not F μ H) (.sl .u8) l [v1] := by simpa only [RelV] using hl
      obtain ⟨a, cc, rfl, hcc, hcell⟩ := sl_cells hl' l0
      obtain ⟨a2, c2, rfl, _, hcell2⟩ := own_bytes hp hb hw p0
      obtain ⟨m, hm⟩ := hp.tab.2 g hg
      refine (hc a a2 l.length cc p.length c2 (Lib.numsL l) (Lib.numsL p) m w (Lib.numsL_length l) (Lib.numsL_length p) (Lib.numsL_range l) (Lib.numsL_range p) hcell hcell2 hcc h2 h4 hm).mono fun e w' ⟨he, bel⟩ => ⟨_, he, ?_, bel⟩
      rw [Lib.bytesOf_numsL, Lib.bytesOf_numsL]
      simp [RelV]
    · cases h
  · cases h

/-- strings.Join of one's own texts -/
def pJoin : Pvr
  | [.wh b, .s sep], H => match H b with
    | .data .str l => some (decide (List.length (α := List UInt8) l ≤ 140737488355328) && decide ((Lib.join l sep).length ≤ 140737488355328), .s (Lib.join l sep))
    | _ => none
  | _, _ => none

theorem pJoin_ok {P : Program} {f : FuncId} (hen : Enters P f)
    (h0 : ∀ (a : Option Addr) (c : Nat) (sep : ByteArray) (w : World), Calls P f #[.slice a 0 c, .string sep] w fun e w' => e = .returned (.string ⟨#[]⟩) ∧ w' = w)
    (hc : ∀ (bk o c : Nat) (xs : List ByteArray) (sep : ByteArray) (w : World), (∀ (j : Nat) x, xs[j]? = some x → w.cell? ⟨bk, o + j, none⟩ = some (.string x)) → bk < w.heap.size → xs.length ≤ 140737488355328 → xs.length ≤ c →
      (Lib.join (xs.map (·.data.toList)) sep.data.toList).length ≤ 140737488355328 →
      Calls P f #[.slice (some ⟨bk, o, none⟩) xs.length c, .string sep] w fun e w' => e = .returned (.string ⟨(Lib.join (xs.map (·.data.toList)) sep.data.toList).toArray⟩) ∧ RowKit.Below w.heap.size w w') : ZOK P f (zPvr pJoin) := by
  refine zPvr_ok ⟨hen, fun args H nx v h F μ w vals hp hr => ?_⟩
  unfold pJoin at h
  split at h
  · rename_i b sep
    split at h
    · rename_i l hb
      simp only [Option.some.injEq, Prod.mk.injEq, Bool.and_eq_true, decide_eq_true_eq] at h
      obtain ⟨⟨h1, h2⟩, rfl⟩ := h
      simp only [RelVs] at hr
      obtain ⟨v1, _, rfl, hw, v2, _, rfl, hs, rfl⟩ := hr
      have hs' : v2 = .string ⟨sep.toArray⟩ := by simpa only [RelV] using hs
      subst hs'
      by_cases l0 : l = []
      · subst l0
        have : ∃ a c, v1 = .slice a 0 c := by
          simp only [RelV] at hw
          obtain ⟨t', l', hb', hv⟩ := hw
          rw [hb] at hb'
          injection hb' with e1 e2
          subst e1
          have e2 := eq_of_heq e2
          subst e2
          rcases hv with ⟨g, c, _, h2, _⟩ | ⟨_, _, h2⟩
          · exact ⟨_, _, h2⟩
          · exact ⟨_, _, h2⟩
        obtain ⟨a, c, rfl⟩ := this
        refine (h0 a c ⟨sep.toArray⟩ w).mono fun e w' ⟨he, hw'⟩ => ⟨_, he, ?_, hw' ▸ RowKit.Below.refl _ _⟩
        simp [RelV, Lib.join]
      · obtain ⟨g, c, rfl, hcc, hgl, hrows⟩ := wh_cells (t := .str) hp hb hw l0
        have hmap : (l.map fun x : List UInt8 => (⟨x.toArray⟩ : ByteArray)).map (·.data.toList) = l := by
          rw [List.map_map]
          conv => rhs; rw [← List.map_id l]
          exact List.map_congr_left fun x _ => by simp
        have := hc g 0 c (l.map fun x : List UInt8 => (⟨x.toArray⟩ : ByteArray)) ⟨sep.toArray⟩ w (fun j x hx => by
          rw [List.getElem?_map] at hx
          obtain ⟨y, hy, rfl⟩ := Option.map_eq_some_iff.mp hx
          obtain ⟨hj, rfl⟩ := List.getElem?_eq_some_iff.mp hy
          obtain ⟨es, e1, e2, e3⟩ := hrows j hj
          simp only [RelD] at e3
          subst e3
          have := e2 0 (by simp)
          simp only [Ty.size, Nat.mul_one, Nat.add_zero, List.getElem_cons_zero] at this
          rw [Nat.zero_add]
          exact this) hgl (by rw [List.length_map]; exact h1) (by rw [List.length_map]; exact hcc) (by rw [hmap]; simpa using h2)
        rw [List.length_map, hmap] at this
        refine this.mono fun e w' ⟨he, bel⟩ => ⟨_, he, ?_, bel⟩
        simp [RelV]
    · cases h
  · cases h

/-- strings.FieldsFunc: new texts, that nothing writes -/
def pFields (g : FuncId) (p : Nat → Bool) : Pvr
  | [.s l, .fn g' []], _ => cond (Nat.beq g' g) (some (decide (l.length ≤ 4294967296), .sl .str ((Lib.goFieldsP p ⟨l.toArray⟩).map fun x => x.data.toList))) none
  | _, _ => none

theorem pFields_ok {P : Program} {f g : FuncId} {p : Nat → Bool} {ts : TypeId} (hen : Enters P f) (hg : ∀ w, PredGrows P g #[] p w)
    (hc : ∀ (s : ByteArray) (w : World), s.size ≤ 4294967296 → PredGrows P g #[] p w →
      Calls P f #[.string s, .func (.func g) #[] #[]] w fun e w' => ∃ A, e = .returned (.slice (some ⟨A, 0, none⟩) (Lib.goFieldsP p s).length (Lib.goFieldsP p s).length) ∧ w.heap.size ≤ A ∧
        w'.ownsRow w.heap.size ts 1 (.slice (some ⟨A, 0, none⟩) (Lib.goFieldsP p s).length (Lib.goFieldsP p s).length) (Lib.goFieldsP p s).length ((Lib.goFieldsP p s).map Value.string) ∧ RowKit.Below w.heap.size w w') : ZOK P f (zPvr (pFields g p)) := by
  refine zPvr_ok ⟨hen, fun args H nx v h F μ w vals hp hr => ?_⟩
  unfold pFields at h
  split at h
  · rename_i l g'
    cases hgg : Nat.beq g' g with
    | false => rw [hgg] at h; cases h
    | true =>
    rw [hgg] at h
    have hgg := Nat.eq_of_beq_eq_true hgg
    subst hgg
    simp only [cond_true, Option.some.injEq, Prod.mk.injEq, decide_eq_true_eq] at h
    obtain ⟨h1, rfl⟩ := h
    simp only [RelVs, RelV] at hr
    obtain ⟨_, _, rfl, rfl, _, _, rfl, ⟨_, rfl, rfl⟩, rfl⟩ := hr
    refine (hc ⟨l.toArray⟩ w (by simpa [ByteArray.size] using h1) (hg w)).mono fun e w' ⟨A, he, hA, hown, bel⟩ => ⟨_, he, ?_, bel⟩
    generalize Lib.goFieldsP p ⟨l.toArray⟩ = fs at *
    unfold RelV RelD
    refine ⟨some ⟨A, 0, none⟩, fs.length, by rw [List.length_map], by rw [List.length_map]; exact Nat.le_refl _, fun h0 => ⟨A, 0, rfl, fun hN => ?_, ?_, fun i hi => ?_⟩⟩
    · rcases hN with hF | ⟨b, hb, hm⟩
      · exact absurd (hp.flt A hF) (by omega)
      · exact absurd (hp.lt b A hb hm) (by omega)
    · exact (hown.lt A rfl).2
    · have hi' : i < fs.length := by simpa using hi
      refine ⟨[.string fs[i]], rfl, fun k hk => ?_, ?_⟩
      · have hk0 : k = 0 := by simpa using hk
        subst hk0
        have := hown.cellAt i (by omega)
        simp only [Ty.size, Nat.mul_one, Nat.zero_add, Nat.add_zero, List.getElem_cons_zero]
        rw [this, List.getElem?_map, List.getElem?_eq_getElem hi']
        rfl
      · simp [RelD]
  · cases h

end Go.Ev
/- Lists of texts that rise, in plain Lean. -/
namespace Go.Gl
open Go Go.Proofs

abbrev Tx := List UInt8

def Rise (l : List Tx) : Prop := l.Pairwise (· < ·)

theorem lt_irr (a : Tx) : ¬ a < a := List.lt_irrefl a
theorem lt_tr {a b c : Tx} (h1 : a < b) (h2 : b < c) : a < c := List.lt_trans h1 h2
theorem lt_of_le {a b : Tx} (h : a ≤ b) (h2 : a ≠ b) : a < b := by
  rcases Classical.em (a < b) with h1 | h1
  · exact h1
  · exact absurd (List.le_antisymm h h1) h2
theorem lt_tot {a b : Tx} (h1 : ¬ a < b) (h2 : a ≠ b) : b < a := by
  rcases List.le_total a b with h | h
  · exact absurd (lt_of_le h h2) h1
  · exact lt_of_le h (Ne.symm h2)

theorem rise_eq : ∀ {a b : List Tx}, Rise a → Rise b → (∀ x, x ∈ a ↔ x ∈ b) → a = b
  | [], [], _, _, _ => rfl
  | [], y :: b, _, _, h => absurd ((h y).2 (by simp)) (by simp)
  | x :: a, [], _, _, h => absurd ((h x).1 (by simp)) (by simp)
  | x :: a, y :: b, h1, h2, h => by
    rw [Rise, List.pairwise_cons] at h1 h2
    have hxy : x = y := by
      have m1 := (h x).1 (by simp)
      have m2 := (h y).2 (by simp)
      rcases List.mem_cons.1 m1 with e | e
      · exact e
      rcases List.mem_cons.1 m2 with e' | e'
      · exact e'.symm
      · exact absurd (lt_tr (h1.1 y e') (h2.1 x e)) (lt_irr x)
    subst hxy
    have : a = b := rise_eq h1.2 h2.2 fun z => by
      constructor
      · intro hz
        rcases List.mem_cons.1 ((h z).1 (List.mem_cons_of_mem _ hz)) with e | e
        · subst e; exact absurd (h1.1 z hz) (lt_irr z)
        · exact e
      · intro hz
        rcases List.mem_cons.1 ((h z).2 (List.mem_cons_of_mem _ hz)) with e | e
        · subst e; exact absurd (h2.1 z hz) (lt_irr z)
        · exact e
    rw [this]

/-- a text laid into a rising list -/
def ins (s : Tx) : List Tx → List Tx
  | [] => [s]
  | x :: l => if s < x then s :: x :: l else x :: ins s l

theorem mem_ins {s : Tx} : ∀ {l : List Tx} {x : Tx}, x ∈ ins s l ↔ x = s ∨ x ∈ l
  | [], x => by simp [ins]
  | y :: l, x => by
    unfold ins
    split
    · simp
    · rw [List.mem_cons, mem_ins, List.mem_cons]
      constructor
      · rintro (h | h | h) <;> simp [h]
      · rintro (h | h | h) <;> simp [h]

theorem len_ins {s : Tx} : ∀ {l : List Tx}, (ins s l).length = l.length + 1
  | [] => rfl
  | y :: l => by
    unfold ins
    split
    · rfl
    · simp [len_ins]

theorem rise_ins {s : Tx} : ∀ {l : List Tx}, Rise l → s ∉ l → Rise (ins s l)
  | [], _, _ => by simp [ins, Rise]
  | y :: l, h, hs => by
    rw [Rise, List.pairwise_cons] at h
    unfold ins
    split
    · rename_i h1
      refine List.pairwise_cons.2 ⟨fun z hz => ?_, List.pairwise_cons.2 h⟩
      rcases List.mem_cons.1 hz with e | e
      · rw [e]; exact h1
      · exact lt_tr h1 (h.1 z e)
    · rename_i h1
      refine List.pairwise_cons.2 ⟨fun z hz => ?_, rise_ins h.2 fun h => hs (List.mem_cons_of_mem _ h)⟩
      rcases mem_ins.1 hz with e | e
      · rw [e]; exact lt_tot h1 fun e => hs (by simp [e])
      · exact h.1 z e

def layS (l : List Tx) (s : Tx) : List Tx := if s ∈ l then l else ins s l

theorem mem_layS {l : List Tx} {s x : Tx} : x ∈ layS l s ↔ x = s ∨ x ∈ l := by
  unfold layS
  split
  · rename_i h
    constructor
    · exact .inr
    · rintro (e | e)
      · rw [e]; exact h
      · exact e
  · exact mem_ins

theorem rise_layS {l : List Tx} {s : Tx} (h : Rise l) : Rise (layS l s) := by
  unfold layS
  split
  · exact h
  · rename_i h1; exact rise_ins h h1

theorem len_layS {l : List Tx} {s : Tx} : (layS l s).length ≤ l.length + 1 := by
  unfold layS
  split
  · omega
  · rw [len_ins]; omega

/-- what slices.Sort leaves -/
def sortT (l : List Tx) : List Tx := l.mergeSort fun x y => decide (x ≤ y)

theorem sortT_pair (l : List Tx) : (sortT l).Pairwise (· ≤ ·) := by
  have := List.pairwise_mergeSort (le := fun x y : Tx => decide (x ≤ y)) (fun a b c h1 h2 => by
    simp only [decide_eq_true_eq] at *
    exact List.le_trans h1 h2) (fun a b => by
    simp only [Bool.or_eq_true, decide_eq_true_eq]
    exact List.le_total a b) l
  exact this.imp fun h => by simpa using h

theorem mem_sortT {l : List Tx} {x : Tx} : x ∈ sortT l ↔ x ∈ l := (List.mergeSort_perm l _).mem_iff

theorem len_sortT (l : List Tx) : (sortT l).length = l.length := List.length_mergeSort _

def sortW (l : List Tx) (lo n : Nat) : List Tx := l.take lo ++ sortT ((l.drop lo).take n) ++ l.drop (lo + n)
def compN (l : List Tx) (lo n : Nat) : Nat := (Lib.compact ((l.drop lo).take n)).length
def compW (l : List Tx) (lo n : Nat) : List Tx :=
  l.take lo ++ (Lib.compact ((l.drop lo).take n) ++ List.replicate (n - (Lib.compact ((l.drop lo).take n)).length) []) ++ l.drop (lo + n)

theorem keep_lt {l : List Tx} (h : l.Pairwise (· ≤ ·)) {i j : Nat} (hij : i < j) (hj : j < l.length) (hk : Lib.keeps l.toArray j = true) : l.toArray[i]! < l.toArray[j]! := by
  have e : ∀ k, k < l.length → l.toArray[k]! = l.getD k [] := fun k hk => by
    rw [getElem!_pos _ _ (by simpa using hk), List.getD_eq_getElem?_getD, List.getElem?_eq_getElem hk]
    simp
  have h1 : l.getD j [] ≠ l.getD (j - 1) [] := by
    unfold Lib.keeps at hk
    rw [decide_eq_true_eq] at hk
    rcases hk with hk | hk
    · omega
    · rw [e j hj, e (j - 1) (by omega)] at hk; exact hk
  have le : ∀ a b, a ≤ b → b < l.length → l.getD a [] ≤ l.getD b [] := fun a b hab hb => by
    rcases Nat.eq_or_lt_of_le hab with rfl | hlt
    · exact List.le_refl _
    · have := List.pairwise_iff_getElem.1 h a b (by omega) hb hlt
      rw [List.getD_eq_getElem?_getD, List.getD_eq_getElem?_getD, List.getElem?_eq_getElem hb, List.getElem?_eq_getElem (show a < l.length by omega)]
      exact this
  rw [e i (by omega), e j hj]
  have h2 : l.getD (j - 1) [] < l.getD j [] := lt_of_le (le _ _ (by omega) hj) (Ne.symm h1)
  have h3 := le i (j - 1) (by omega) (by omega)
  rcases Classical.em (l.getD i [] = l.getD (j - 1) []) with h4 | h4
  · rw [h4]; exact h2
  · exact lt_tr (lt_of_le h3 h4) h2

theorem rise_compact {l : List Tx} (h : l.Pairwise (· ≤ ·)) : Rise (Lib.compact l) := by
  unfold Lib.compact Lib.compactUpTo
  refine List.pairwise_map.2 ?_
  have h1 : (List.range l.length).Pairwise (· < ·) := List.pairwise_lt_range
  have h2 : ((List.range l.length).filter (Lib.keeps l.toArray)).Pairwise (· < ·) := h1.filter _
  refine h2.imp_of_mem fun {i j} hi hj hij => ?_
  rw [List.mem_filter, List.mem_range] at hi hj
  exact keep_lt h hij hj.1 hj.2

theorem mem_compact {l : List Tx} {x : Tx} : x ∈ Lib.compact l ↔ x ∈ l := by
  have e : ∀ k, (hk : k < l.length) → l.toArray[k]! = l[k] := fun k hk => by
    rw [getElem!_pos _ _ (by simpa using hk)]
    simp
  unfold Lib.compact Lib.compactUpTo
  rw [List.mem_map]
  constructor
  · rintro ⟨i, hi, rfl⟩
    rw [List.mem_filter, List.mem_range] at hi
    rw [e i hi.1]
    exact List.getElem_mem _
  · intro hx
    obtain ⟨k, hk, rfl⟩ := List.getElem_of_mem hx
    have : ∀ n, (hn : n < l.length) → ∃ a, a ∈ (List.range l.length).filter (Lib.keeps l.toArray) ∧ l.toArray[a]! = l[n] := by
      intro n
      induction n with
      | zero => intro hn; exact ⟨0, List.mem_filter.2 ⟨List.mem_range.2 hn, by simp [Lib.keeps]⟩, e 0 hn⟩
      | succ n ih =>
        intro hn
        by_cases hk : Lib.keeps l.toArray (n + 1) = true
        · exact ⟨n + 1, List.mem_filter.2 ⟨List.mem_range.2 hn, hk⟩, e _ hn⟩
        · obtain ⟨a, h1, h2⟩ := ih (by omega)
          refine ⟨a, h1, ?_⟩
          unfold Lib.keeps at hk
          rw [decide_eq_true_eq, not_or] at hk
          have h3 := Classical.not_not.1 hk.2
          rw [show n + 1 - 1 = n from rfl, e _ hn, e n (by omega)] at h3
          rw [h2, h3]
    exact this k hk

end Go.Gl
/- Sorting and pruning of texts of one's own; joining of texts that are plain data. -/
namespace Go.Ev
open Go Go.Proofs Go.Sort Go.Gl

theorem heap_putRowS {α : Type} [Inhabited α] (enc : α → Value) (w : World) (blk off : Nat) (d : Array α) {k : Nat} (h : k ≠ blk) : (putRow enc w blk off d).heap[k]? = w.heap[k]? := by
  simp only [putRow, mapBlock, Array.getElem?_modify]
  rw [if_neg (fun e => h e.symm)]

/-- a slice of texts of one's own, or a window of one -/
def asWin {α : Type} (H : Nat → Blk) (x : AV) (K : Nat → List Tx → Nat → Nat → Option α) : Option α := match x with
  | .wh b => match H b with
    | .data .str l => K b l 0 (List.length (α := List UInt8) l)
    | _ => none
  | .win b lo n => match H b with
    | .data .str l => K b l lo n
    | _ => none
  | _ => none

theorem asWin_ok {α : Type} {w : World} {N : Nat → Prop} {μ : Nat → Option Nat} {H : Nat → Blk} {x : AV} {v : Value} {K : Nat → List Tx → Nat → Nat → Option α} {r : α} (hr : RelV w N μ H x v) (h : asWin H x K = some r) :
    ∃ b l lo n, H b = .data .str l ∧ K b l lo n = some r ∧ lo + n ≤ List.length (α := List UInt8) l ∧ ((∃ g c o, μ b = some g ∧ v = .slice (some ⟨g, o, none⟩) n (c - lo) ∧ List.length (α := List UInt8) l ≤ c ∧ room w g c ∧ (o = lo ∨ (c = lo ∧ o ≤ lo))) ∨ (μ b = none ∧ l = [] ∧ n = 0 ∧ v = .slice none 0 0)) := by
  unfold asWin at h
  split at h
  · rename_i b
    split at h
    · rename_i l hb
      simp only [RelV] at hr
      obtain ⟨t', l', hb', hv⟩ := hr
      rw [hb] at hb'
      injection hb' with e1 e2
      subst e1
      have e2 := eq_of_heq e2
      subst e2
      refine ⟨b, l, 0, _, hb, h, by omega, ?_⟩
      rcases hv with ⟨g, c, h1, h2, h3, h4⟩ | ⟨h1, h2, h3⟩
      · exact .inl ⟨g, c, 0, h1, by rw [h2]; rfl, h3, by simpa [Ty.size] using h4, .inl rfl⟩
      · exact .inr ⟨h1, h2, by rw [h2]; rfl, h3⟩
    · cases h
  · rename_i b lo n
    split at h
    · rename_i l hb
      simp only [RelV] at hr
      obtain ⟨t', l', hb', hle, hv⟩ := hr
      rw [hb] at hb'
      injection hb' with e1 e2
      subst e1
      have e2 := eq_of_heq e2
      subst e2
      refine ⟨b, l, lo, n, hb, h, hle, ?_⟩
      rcases hv with ⟨g, c, o, h1, h2, h3, h4, h5⟩ | ⟨h1, h2, h3⟩
      · refine .inl ⟨g, c, o, h1, h2, h3, by simpa [Ty.size] using h4, ?_⟩
        rcases h5 with h5 | ⟨h5, h6⟩
        · exact .inl (by simpa [Ty.size] using h5)
        · exact .inr ⟨h5, by simpa [Ty.size] using h6⟩
      · exact .inr ⟨h1, h2, by (have : lo + n ≤ 0 := by rw [h2] at hle; exact hle); omega, h3⟩
    · cases h
  · cases h

section
variable {T : Tb} {F : Frm T} {μ : Nat → Option Nat} {H : Nat → Blk} {nx : Nat} {w : World} {b g : Nat} {l : List Tx}

theorem rows_of (hp : Hp F μ H nx w) (hb : H b = .data .str l) (hm : μ b = some g) : ∀ i, (h : i < List.length (α := List UInt8) l) → w.cell? ⟨g, i, none⟩ = some (encStr l[i]) := fun i hi => by
  have hrow := hp.blk b
  simp only [hb, RelB] at hrow
  rcases hrow with ⟨hn, _⟩ | ⟨g', hm', _, hrows⟩
  · rw [hm] at hn; cases hn
  · rw [hm] at hm'
    cases hm'
    obtain ⟨es, e1, e2, e3⟩ := hrows i hi
    simp only [RelD] at e3
    subst e3
    have := e2 0 (by simp)
    simpa [Ty.size] using this

theorem holds_win (hp : Hp F μ H nx w) (hb : H b = .data .str l) (hm : μ b = some g) {c lo n : Nat} (hroom : room w g c) (hlc : List.length (α := List UInt8) l ≤ c) (hlo : lo + n ≤ List.length (α := List UInt8) l) :
    Holds encStr w g lo ((l.drop lo).take n).toArray := fun j hj => by
  have hj' : j < n ∧ lo + j < List.length (α := List UInt8) l := by simp at hj; omega
  refine ⟨?_, (hroom (lo + j) (by omega)).2⟩
  have e : (((l.drop lo).take n).toArray)[j]! = l[lo + j]'hj'.2 := by
    rw [getElem!_pos (((l.drop lo).take n).toArray) j hj]
    simp
  rw [rows_of hp hb hm (lo + j) hj'.2, e]

/-- A row of texts of which a window is written anew. -/
theorem row_turn (hp : Hp F μ H nx w) (hb : H b = .data .str l) (hm : μ b = some g) {c lo n : Nat} (hroom : room w g c) (hlc : List.length (α := List UInt8) l ≤ c) (hlo : lo + n ≤ List.length (α := List UInt8) l)
    {zs : List Tx} (hz : zs.length = n) {q : Nat} {os : Array Obj} {w' : World} (hw : w' = grow (putRow encStr (Go.Sort.ahead w q) g lo zs.toArray) os) {L : List Tx} (hL : L = l.take lo ++ zs ++ l.drop (lo + n)) :
    ∃ μ', Hp F μ' (updH H b (.data .str L)) nx w' ∧ Pl F μ H nx w [] μ' (updH H b (.data .str L)) nx w' ∧ μ' b = some g ∧ room w' g c ∧ List.length (α := List UInt8) L = List.length (α := List UInt8) l := by
  have hlive : H b ≠ .dead := by rw [hb]; simp
  have hlt' := hp.lt b g hlive hm
  have hH := holds_win hp hb hm hroom hlc hlo
  have hLl : L.length = List.length (α := List UInt8) l := by rw [hL]; simp [hz]; omega
  have hsz : zs.toArray.size = ((l.drop lo).take n).toArray.size := by simp [hz]; omega
  have hsize : (putRow encStr (Go.Sort.ahead w q) g lo zs.toArray).heap.size = w.heap.size := by simp [putRow, mapBlock, Go.Sort.ahead]
  have hold : ∀ k, k < w.heap.size → k ≠ g → w'.heap[k]? = w.heap[k]? := fun k hk hne => by
    rw [hw]
    have : (grow (putRow encStr (Go.Sort.ahead w q) g lo zs.toArray) os).heap[k]? = (putRow encStr (Go.Sort.ahead w q) g lo zs.toArray).heap[k]? := by
      simp only [grow]
      rw [Array.getElem?_append_left (by rw [hsize]; exact hk)]
    rw [this]
    have := heap_putRowS encStr (Go.Sort.ahead w q) g lo zs.toArray (k := k) hne
    rw [this]
    rfl
  have hsz' : w.heap.size ≤ w'.heap.size := by rw [hw, Go.Sort.size_grow, hsize]; omega
  have hH' : Holds encStr w' g lo zs.toArray := by
    rw [hw]
    exact holds_grow encStr _ os g lo zs.toArray (by rw [hsize]; exact hlt') (holds_putRow encStr _ g lo _ zs.toArray (holds_ahead encStr w q g lo _ hH) hsz)
  have hother : ∀ k, (k < lo ∨ lo + n ≤ k) → w'.cell? ⟨g, k, none⟩ = w.cell? ⟨g, k, none⟩ := fun k hk => by
    rw [hw, Go.Sort.cell?_grow _ _ _ (by rw [hsize]; exact hlt')]
    refine cell?_putRow_other _ _ _ _ _ _ (.inr ?_)
    simp [hz]; omega
  have hcell : ∀ i, (h : i < L.length) → w'.cell? ⟨g, i, none⟩ = some (encStr L[i]) := fun i hi => by
    rw [hLl] at hi
    by_cases h1 : i < lo
    · rw [hother i (.inl h1), rows_of hp hb hm i hi]
      subst hL
      rw [List.getElem_append_left (by simp; omega), List.getElem_append_left (by simp; omega), List.getElem_take]
    · by_cases h2 : i < lo + n
      · have := (hH' (i - lo) (by simp [hz]; omega)).1
        rw [show lo + (i - lo) = i by omega] at this
        rw [this, getElem!_pos _ _ (by simp [hz]; omega)]
        subst hL
        rw [List.getElem_append_left (by simp; omega), List.getElem_append_right (by simp; omega)]
        congr 2
        simp
        congr 1
        omega
      · rw [hother i (.inr (by omega)), rows_of hp hb hm i hi]
        subst hL
        rw [List.getElem_append_right (by simp; omega), List.getElem_drop]
        congr 3
        simp; omega
  have hroom' : ∀ m, room w g m → room w' g m := fun m hr k hk => by
    obtain ⟨r1, r2⟩ := hr k hk
    have hfr : w'.frozen? ⟨g, k, none⟩ = w.frozen? ⟨g, k, none⟩ := by
      rw [hw, Go.Sort.frozen?_grow _ _ _ (by rw [hsize]; exact hlt')]
      exact frozen?_putRow _ _ _ _ _ _
    refine ⟨?_, by rw [hfr]; exact r2⟩
    by_cases hkk : lo ≤ k ∧ k < lo + n
    · have := hcell k (by rw [hLl]; omega)
      rw [this]; rfl
    · rw [hother k (by omega)]; exact r1
  have Tn : Turned F μ H nx w [] b (some g) (.data .str L) nx w' := {
    hp := hp
    os := by rw [hw]; rfl
    tape := by rw [hw]; rfl
    output := by rw [hw]; rfl
    size := hsz'
    keep := fun k hk hne => hold k hk fun e => hne hlive (by rw [e]; exact hm)
    at_ := fun k hk => by cases hk; exact .inl ⟨hlive, hm⟩
    mono := Nat.le_refl _
    lt := by
      rcases Nat.lt_or_ge b nx with h | h
      · exact h
      · exact absurd (hp.dead b h) hlive
    live := by simp
    kind := fun _ => Pin.zero rfl
    mark := fun hu k hk c e m hc => by
      cases hk
      have hg0 : w.heap[g]? ≠ none := by rw [Array.getElem?_eq_getElem hlt']; simp
      rw [hw] at hc
      have hc2 : (putRow encStr (Go.Sort.ahead w q) g lo zs.toArray).heap[g]? = some (.cells c e m) := by
        rw [← hc]
        simp only [grow]
        rw [Array.getElem?_append_left (by rw [hsize]; exact hlt')]
      simp only [putRow, mapBlock, Array.getElem?_modify, if_true] at hc2
      cases hh : w.heap[g]? with
      | none => exact absurd hh hg0
      | some ob =>
        have hh' : (Go.Sort.ahead w q).heap[g]? = some ob := hh
        rw [hh'] at hc2
        cases ob with
        | cells c0 e0 m0 =>
          have := hp.mark b g (by rw [hb]; rfl) hm c0 e0 m0 hh
          simp only [Option.map_some, Option.some.injEq] at hc2
          injection hc2 with h1 h2 h3
          rw [← h1, ← h3]
          simpa [putCells] using this
        | _ => simp [onCells] at hc2
    self := fun _ _ => by
      refine ⟨by rw [updM_same, hm], ?_⟩
      rw [hb]
      simp only [updH_same]
      exact ⟨⟨_, rfl, hLl⟩, fun k m hk hr => by rw [hm] at hk; cases hk; exact hroom' m hr⟩ }
  refine ⟨updM μ b (some g), Tn.hp' ?_, Tn.pl, updM_same _ _ _, hroom' _ hroom, hLl⟩
  simp only [RelB]
  refine .inr ⟨g, updM_same _ _ _, ?_, fun i hi => ?_⟩
  · refine hroom' _ fun k hk => hroom k ?_
    have hk' : k < List.length (α := List UInt8) L * 1 := hk
    omega
  · refine ⟨[encStr L[i]], rfl, fun k hk => ?_, by simp [RelD]⟩
    have hk0 : k = 0 := by simpa using hk
    subst hk0
    simpa [Ty.size] using hcell i hi

end

/-- nothing is written -/
theorem updH_id {H : Nat → Blk} {b : Nat} {B : Blk} (h : H b = B) : updH H b B = H := by
  funext k
  by_cases hk : k = b
  · subst hk; rw [updH_same, h]
  · rw [updH_other hk]

theorem len_win {l : List Tx} {lo n : Nat} (h : lo + n ≤ l.length) : ((l.drop lo).take n).length = n := by simp; omega

theorem sortW_none {l : List Tx} {lo : Nat} : sortW l lo 0 = l := by simp [sortW, sortT]

theorem compN_none {l : List Tx} {lo : Nat} : compN l lo 0 = 0 := by
  have : (Lib.compact ([] : List Tx)) = [] := rfl
  simp [compN, this]
theorem compW_none {l : List Tx} {lo : Nat} : compW l lo 0 = l := by
  have : (Lib.compact ([] : List Tx)) = [] := rfl
  simp [compW, this]

/-- slices.Sort of texts -/
def zSortT : Deed := fun args S => match args with
  | [x] => asWin S.H x fun b l lo n => some (decide (List.length (α := List UInt8) l < 4611686018427387904), .tup [], ⟨S.E, updH S.H b (.data .str (sortW l lo n)), S.nx, S.kl⟩)
  | _ => none

theorem zSortT_ok {P : Program} {f : FuncId} (hen : Enters P f)
    (h0 : ∀ (p : Option Addr) (cap : Nat) (w : World), Calls P f #[.slice p 0 cap] w fun e w' => e = .returned (.tuple #[]) ∧ w' = w)
    (hc : ∀ (blk off cap : Nat) (ss : List Tx) (w : World), Holds encStr w blk off ss.toArray → blk < w.heap.size → ss.length < 4611686018427387904 →
      Calls P f #[.slice (some ⟨blk, off, none⟩) ss.length cap] w fun e w' => e = .returned (.tuple #[]) ∧ ∃ n os, w' = grow (putRow encStr (Go.Sort.ahead w n) blk off (sortT ss).toArray) os) : ZOK P f zSortT := by
  refine ⟨hen, fun args S v S' h F μ w vals hp hr => ?_⟩
  unfold zSortT at h
  split at h
  · rename_i x
    simp only [RelVs] at hr
    obtain ⟨v1, _, rfl, hx, rfl⟩ := hr
    obtain ⟨b, l, lo, n, hb, h, hlo, hv⟩ := asWin_ok hx h
    simp only [Option.some.injEq, Prod.mk.injEq, decide_eq_true_eq] at h
    obtain ⟨hlt, rfl, rfl⟩ := h
    by_cases hn : n = 0
    · subst hn
      have hcall : Calls P f #[v1] w fun e w' => e = .returned (.tuple #[]) ∧ w' = w := by
        rcases hv with ⟨g, c, o, _, rfl, _⟩ | ⟨_, _, _, rfl⟩
        · exact h0 _ _ w
        · exact h0 _ _ w
      refine hcall.mono fun e w' ⟨he, hw⟩ => ?_
      subst hw
      rw [sortW_none, updH_id hb]
      exact ⟨μ, [], _, he, rfl, by simp, hp, Pl.keep hp (Chg.refl _), by simp [RelV, RelVs]⟩
    · rcases hv with ⟨g, c, o, hm, rfl, hlc, hroom, ho⟩ | ⟨_, _, h, _⟩
      · obtain rfl : o = lo := ho.resolve_right fun h => by omega
        have := hc g o (c - o) ((l.drop o).take n) w (holds_win hp hb hm hroom hlc hlo) (hp.lt b g (by rw [hb]; simp) hm) (by rw [len_win hlo]; omega)
        rw [len_win hlo] at this
        refine this.mono fun e w' ⟨he, q, os, hw⟩ => ?_
        obtain ⟨μ', h1, h2, _, _, _⟩ := row_turn hp hb hm hroom hlc hlo (zs := sortT ((l.drop o).take n)) (by rw [len_sortT, len_win hlo]) hw rfl
        exact ⟨μ', [], _, he, rfl, by simp, h1, h2, by simp [RelV, RelVs]⟩
      · exact absurd h hn
  · cases h

/-- slices.Compact of texts -/
def zCompactT : Deed := fun args S => match args with
  | [x] => asWin S.H x fun b l lo n => some (decide (List.length (α := List UInt8) l < 4611686018427387904), .win b lo (compN l lo n), ⟨S.E, updH S.H b (.data .str (compW l lo n)), S.nx, S.kl⟩)
  | _ => none

theorem comp_le (l : List Tx) : (Lib.compact l).length ≤ l.length := by
  unfold Lib.compact Lib.compactUpTo
  rw [List.length_map]
  refine Nat.le_trans (List.length_filter_le _ _) ?_
  simp

theorem zCompactT_ok {P : Program} {f : FuncId} (hen : Enters P f)
    (h0 : ∀ (p : Option Addr) (cap : Nat) (w : World), Calls P f #[.slice p 0 cap] w fun e w' => e = .returned (.slice p 0 cap) ∧ w' = w)
    (hc : ∀ (blk off cap : Nat) (zs : List Tx) (w : World), Holds encStr w blk off zs.toArray → zs.length ≤ 9223372036854775807 → zs.length ≤ cap →
      Calls P f #[.slice (some ⟨blk, off, none⟩) zs.length cap] w fun e w' => e = .returned (.slice (some ⟨blk, off, none⟩) (Lib.compact zs).length cap) ∧ ∃ q, w' = putRow encStr (Go.Sort.ahead w q) blk off (Lib.compact zs ++ List.replicate (zs.length - (Lib.compact zs).length) []).toArray) : ZOK P f zCompactT := by
  refine ⟨hen, fun args S v S' h F μ w vals hp hr => ?_⟩
  unfold zCompactT at h
  split at h
  · rename_i x
    simp only [RelVs] at hr
    obtain ⟨v1, _, rfl, hx, rfl⟩ := hr
    obtain ⟨b, l, lo, n, hb, h, hlo, hv⟩ := asWin_ok hx h
    simp only [Option.some.injEq, Prod.mk.injEq, decide_eq_true_eq] at h
    obtain ⟨hlt, rfl, rfl⟩ := h
    by_cases hn : n = 0
    · subst hn
      rw [compW_none, compN_none, updH_id hb]
      rcases hv with ⟨g, c, o, hm, rfl, hlc, hroom, ho⟩ | ⟨hm, hl, _, rfl⟩
      · refine (h0 _ _ w).mono fun e w' ⟨he, hw⟩ => ?_
        subst hw
        refine ⟨μ, [], _, he, rfl, by simp, hp, Pl.keep hp (Chg.refl _), ?_⟩
        simp only [RelV]
        exact ⟨.str, l, hb, by simpa using hlo, .inl ⟨g, c, o, hm, rfl, hlc, by simpa [Ty.size] using hroom, by simpa [Ty.size] using ho⟩⟩
      · refine (h0 _ _ w).mono fun e w' ⟨he, hw⟩ => ?_
        subst hw
        refine ⟨μ, [], _, he, rfl, by simp, hp, Pl.keep hp (Chg.refl _), ?_⟩
        simp only [RelV]
        exact ⟨.str, l, hb, hlo, .inr ⟨hm, hl, trivial⟩⟩
    · rcases hv with ⟨g, c, o, hm, rfl, hlc, hroom, ho⟩ | ⟨_, _, h, _⟩
      · obtain rfl : o = lo := ho.resolve_right fun h => by omega
        have := hc g o (c - o) ((l.drop o).take n) w (holds_win hp hb hm hroom hlc hlo) (by rw [len_win hlo]; omega) (by rw [len_win hlo]; omega)
        rw [len_win hlo] at this
        refine this.mono fun e w' ⟨he, q, hw⟩ => ?_
        have hle := comp_le ((l.drop o).take n)
        rw [len_win hlo] at hle
        obtain ⟨μ', h1, h2, h3, h4, h5⟩ := row_turn hp hb hm hroom hlc hlo (zs := Lib.compact ((l.drop o).take n) ++ List.replicate (n - (Lib.compact ((l.drop o).take n)).length) []) (by simp; omega) (q := q) (os := #[]) (w' := w') (hw.trans (grow_empty _).symm) (L := compW l o n) rfl
        refine ⟨μ', [], _, he, rfl, by simp, h1, h2, ?_⟩
        simp only [RelV]
        refine ⟨.str, compW l o n, updH_same _ _ _, ?_, .inl ⟨g, c, o, h3, rfl, ?_, by simpa [Ty.size] using h4, .inl (by simp [Ty.size])⟩⟩
        · have : o + compN l o n ≤ List.length (α := List UInt8) (compW l o n) := by
            rw [h5]; unfold compN; omega
          exact this
        · have : List.length (α := List UInt8) (compW l o n) ≤ c := by rw [h5]; exact hlc
          exact this
      · exact absurd h hn
  · cases h

/-- strings.Join of texts that are plain data -/
def pJoinS : Pvr
  | [.sl .str l, .s sep], _ => some (decide (List.length (α := List UInt8) l ≤ 140737488355328) && decide ((Lib.join l sep).length ≤ 140737488355328), .s (Lib.join l sep))
  | _, _ => none

theorem pJoinS_ok {P : Program} {f : FuncId} (hen : Enters P f)
    (h0 : ∀ (a : Option Addr) (c : Nat) (sep : ByteArray) (w : World), Calls P f #[.slice a 0 c, .string sep] w fun e w' => e = .returned (.string ⟨#[]⟩) ∧ w' = w)
    (hc : ∀ (bk o c : Nat) (xs : List ByteArray) (sep : ByteArray) (w : World), (∀ (j : Nat) x, xs[j]? = some x → w.cell? ⟨bk, o + j, none⟩ = some (.string x)) → bk < w.heap.size → xs.length ≤ 140737488355328 → xs.length ≤ c →
      (Lib.join (xs.map (·.data.toList)) sep.data.toList).length ≤ 140737488355328 →
      Calls P f #[.slice (some ⟨bk, o, none⟩) xs.length c, .string sep] w fun e w' => e = .returned (.string ⟨(Lib.join (xs.map (·.data.toList)) sep.data.toList).toArray⟩) ∧ RowKit.Below w.heap.size w w') : ZOK P f (zPvr pJoinS) := by
  refine zPvr_ok ⟨hen, fun args H nx v h F μ w vals hp hr => ?_⟩
  unfold pJoinS at h
  split at h
  · rename_i l sep
    simp only [Option.some.injEq, Prod.mk.injEq, Bool.and_eq_true, decide_eq_true_eq] at h
    obtain ⟨⟨h1, h2⟩, rfl⟩ := h
    simp only [RelVs] at hr
    obtain ⟨v1, _, rfl, hw, v2, _, rfl, hs, rfl⟩ := hr
    have hs' : v2 = .string ⟨sep.toArray⟩ := by simpa only [RelV] using hs
    subst hs'
    have hw' : RelD w (Not F μ H) (.sl .str) l [v1] := by simpa only [RelV] using hw
    simp only [RelD] at hw'
    obtain ⟨a, c, e1, e2, e3⟩ := hw'
    injection e1 with e1 _
    subst e1
    by_cases l0 : l = []
    · subst l0
      refine (h0 a c ⟨sep.toArray⟩ w).mono fun e w' ⟨he, hw'⟩ => ⟨_, he, ?_, hw' ▸ RowKit.Below.refl _ _⟩
      simp [RelV, Lib.join_nil]
    · obtain ⟨g, o, rfl, _, hg, hrow⟩ := e3 (List.length_pos_iff.mpr l0)
      have hmap : (l.map fun x : List UInt8 => (⟨x.toArray⟩ : ByteArray)).map (·.data.toList) = l := by
        rw [List.map_map]
        conv => rhs; rw [← List.map_id l]
        exact List.map_congr_left fun x _ => by simp
      have := hc g o c (l.map fun x : List UInt8 => (⟨x.toArray⟩ : ByteArray)) ⟨sep.toArray⟩ w (fun j x hx => by
        rw [List.getElem?_map] at hx
        obtain ⟨y, hy, rfl⟩ := Option.map_eq_some_iff.mp hx
        obtain ⟨hj, rfl⟩ := List.getElem?_eq_some_iff.mp hy
        obtain ⟨es, q1, q2, q3⟩ := hrow j hj
        subst q3
        have := q2 0 (by simp)
        simpa only [Ty.size, Nat.mul_one, Nat.add_zero, List.getElem_cons_zero] using this) hg (by rw [List.length_map]; exact h1) (by rw [List.length_map]; exact e2) (by rw [hmap]; simpa using h2)
      rw [List.length_map, hmap] at this
      refine this.mono fun e w' ⟨he, bel⟩ => ⟨_, he, ?_, bel⟩
      simp [RelV]
  · cases h

end Go.Ev
/- More deeds: TrimRight, bytes.Index; one deed or another. -/
namespace Go.Ev
open Go Go.Proofs
set_option maxRecDepth 100000

def pTrimRight : Pvs
  | [.s l, .s c] => some (decide (l.length ≤ 9223372036854775807) && decide (c.length < 4294967281) && ascii c, .s (Lib.trimRightS l c))
  | _ => none

theorem pTrimRight_ok {P : Program} {f : FuncId} (hen : Enters P f)
    (hc : ∀ (s c : ByteArray) (w : World), s.size ≤ 9223372036854775807 → c.size < 4294967281 → (∀ (j : Nat) b, c.data.toList[j]? = some b → b.toNat < 128) →
      Calls P f #[.string s, .string c] w fun e w' => e = .returned (.string ⟨(Lib.trimRightS s.data.toList c.data.toList).toArray⟩) ∧ RowKit.Below w.heap.size w w') : ZOK P f (zPv pTrimRight) := by
  refine zPv_ok ⟨hen, fun args v h w N μ H vals ht hr => ?_⟩
  unfold pTrimRight at h
  split at h
  · rename_i l c
    simp only [Option.some.injEq, Prod.mk.injEq, Bool.and_eq_true, decide_eq_true_eq] at h
    obtain ⟨⟨⟨h1, h2⟩, h3⟩, rfl⟩ := h
    simp only [RelVs, RelV] at hr
    obtain ⟨_, _, rfl, rfl, _, _, rfl, rfl, rfl⟩ := hr
    refine (hc ⟨l.toArray⟩ ⟨c.toArray⟩ w (by simpa [ByteArray.size] using h1) (by simpa [ByteArray.size] using h2) (by simpa using ascii_at h3)).mono fun e w' ⟨he, bel⟩ => ⟨_, he, fun w1 N1 μ1 H1 => ?_, bel⟩
    simp [RelV]
  · cases h

/-- bytes.Index by a pattern of one's own, or by a part of another's text -/
def pIndexB : Pvr
  | [.sl .u8 l, .wh b], H => match H b with
    | .data .u8 p => some (!(List.isEmpty (α := UInt8) l) && decide (l.length < 4294967281) && !(List.isEmpty (α := UInt8) p) && decide (p.length ≤ 9223372036854775807), .i .i64 (Lib.index l p))
    | _ => none
  | [.sl .u8 l, .sl .u8 p], _ => some (!(List.isEmpty (α := UInt8) l) && decide (l.length < 4294967281) && !(List.isEmpty (α := UInt8) p) && decide (p.length ≤ 9223372036854775807), .i .i64 (Lib.index l p))
  | _, _ => none

theorem pIndexB_ok {P : Program} {f : FuncId} {g : Nat} (hen : Enters P f) (hg : globAt P "internal/bytealg.MaxLen" = some g)
    (hc : ∀ (a1 a2 : Addr) (n c1 k c2 : Nat) (xs ys : List Int) (m : Int) (w : World), xs.length = n → ys.length = k → (∀ x ∈ xs, 0 ≤ x ∧ x < 256) → (∀ y ∈ ys, 0 ≤ y ∧ y < 256) →
      (∀ i, i < n → w.cell? (a1.add i) = some (.int .u8 (xs.getD i 0))) → (∀ i, i < k → w.cell? (a2.add i) = some (.int .u8 (ys.getD i 0))) → n ≤ c1 → n < 4294967281 → k ≤ 9223372036854775807 → w.cell? ⟨g, 0, none⟩ = some (.int .i64 m) →
      Calls P f #[.slice (some a1) n c1, .slice (some a2) k c2] w fun e w' => e = .returned (.int .i64 (Lib.index (Lib.bytesOf xs) (Lib.bytesOf ys))) ∧ RowKit.Below w.heap.size w w') : ZOK P f (zPvr pIndexB) := by
  refine zPvr_ok ⟨hen, fun args H nx v h F μ w vals hp hr => ?_⟩
  unfold pIndexB at h
  split at h
  · rename_i l b
    split at h
    · rename_i p hb
      simp only [Option.some.injEq, Prod.mk.injEq, Bool.and_eq_true, decide_eq_true_eq, Bool.not_eq_true'] at h
      obtain ⟨⟨⟨⟨h1, h2⟩, h3⟩, h4⟩, rfl⟩ := h
      have l0 : l ≠ [] := fun e => by rw [e] at h1; cases h1
      have p0 : p ≠ [] := fun e => by rw [e] at h3; cases h3
      simp only [RelVs] at hr
      obtain ⟨v1, _, rfl, hl, v2, _, rfl, hw, rfl⟩ := hr
      have hl' : RelD w (Not F μ H) (.sl .u8) l [v1] := by simpa only [RelV] using hl
      obtain ⟨a, cc, rfl, hcc, hcell⟩ := sl_cells hl' l0
      obtain ⟨a2, c2, rfl, _, hcell2⟩ := own_bytes hp hb hw p0
      obtain ⟨m, hm⟩ := hp.tab.2 g hg
      refine (hc a a2 l.length cc p.length c2 (Lib.numsL l) (Lib.numsL p) m w (Lib.numsL_length l) (Lib.numsL_length p) (Lib.numsL_range l) (Lib.numsL_range p) hcell hcell2 hcc h2 h4 hm).mono fun e w' ⟨he, bel⟩ => ⟨_, he, ?_, bel⟩
      rw [Lib.bytesOf_numsL, Lib.bytesOf_numsL]
      simp [RelV]
    · cases h
  · rename_i l p
    simp only [Option.some.injEq, Prod.mk.injEq, Bool.and_eq_true, decide_eq_true_eq, Bool.not_eq_true'] at h
    obtain ⟨⟨⟨⟨h1, h2⟩, h3⟩, h4⟩, rfl⟩ := h
    have l0 : l ≠ [] := fun e => by rw [e] at h1; cases h1
    have p0 : p ≠ [] := fun e => by rw [e] at h3; cases h3
    simp only [RelVs] at hr
    obtain ⟨v1, _, rfl, hl, v2, _, rfl, hw, rfl⟩ := hr
    have hl' : RelD w (Not F μ H) (.sl .u8) l [v1] := by simpa only [RelV] using hl
    have hw' : RelD w (Not F μ H) (.sl .u8) p [v2] := by simpa only [RelV] using hw
    obtain ⟨a, cc, rfl, hcc, hcell⟩ := sl_cells hl' l0
    obtain ⟨a2, c2, rfl, _, hcell2⟩ := sl_cells hw' p0
    obtain ⟨m, hm⟩ := hp.tab.2 g hg
    refine (hc a a2 l.length cc p.length c2 (Lib.numsL l) (Lib.numsL p) m w (Lib.numsL_length l) (Lib.numsL_length p) (Lib.numsL_range l) (Lib.numsL_range p) hcell hcell2 hcc h2 h4 hm).mono fun e w' ⟨he, bel⟩ => ⟨_, he, ?_, bel⟩
    rw [Lib.bytesOf_numsL, Lib.bytesOf_numsL]
    simp [RelV]
  · cases h

/-- one deed for slices of one's own, another for plain data -/
def zOr (z1 z2 : Deed) : Deed := fun args S => match args with
  | .wh b :: r => z1 (.wh b :: r) S
  | a => z2 a S

theorem zOr_ok {P : Program} {f : FuncId} {z1 z2 : Deed} (h1 : ZOK P f z1) (h2 : ZOK P f z2) : ZOK P f (zOr z1 z2) := by
  refine ⟨h1.1, fun args S v S' hz => ?_⟩
  unfold zOr at hz
  split at hz
  · exact h1.2 _ S v S' hz
  · exact h2.2 _ S v S' hz

end Go.Ev
/- generated -/
namespace Go.Qw
open Go Go.Ev
set_option maxRecDepth 100000
theorem mixed : Go.Proofs.Try.prog.follows .mixedOrders = true := by kernel_rfl
/-! pigeonhole/text.plain -/
def F68 (p : (Int × Int × Unit) × Unit) : Option (Bool × Unit) := (some ((((decide ((32:Int) ≤ p.1.1)) && (!(decide (p.1.1 = (127:Int))))) && ((!(decide (p.1.1 = (65533:Int)))) || (decide (p.1.2.1 = (3:Int))))), ()))
def O68 : Orc := ⟨(.cons (.i .i32) (.cons (.i .i64) .nil)), [], .b, [], F68⟩
def H68 : HT := .leaf
def X68 : List (FuncId × Orc) := []
def Y68 : List (FuncId × (List AV → Option AV)) := []
def Z68 : List (FuncId × Deed) := []
def I68 : List FuncId := []
theorem run68 (p) : evTop Go.Proofs.Try.prog (callX Go.Proofs.Try.prog (lookX X68) (lookM X68) (lookY Y68) (lookZ Z68) (hasN I68) 6) (mild (lookM X68) (lookY Y68)) Go.Proofs.Try.f68 H68 O68 p = F68 p := by kernel_rfl
theorem ok68 : O68.OK Go.Proofs.Try.prog 68 :=
  ok_of mixed (X := X68) (Y := Y68) (Z := Z68) (I := I68) (d := 6) trivial trivial trivial trivial (by kernel_rfl) Go.Proofs.Try.func68 Go.Proofs.Try.call68 (c := bodyOf Go.Proofs.Try.f68) (by kernel_rfl) (h := H68) (by kernel_rfl)
    (ls := []) (by kernel_rfl) trivial run68

/-! pigeonhole/text.width -/
def S69_0 : Shape := ⟨[(0, .s), (1, (.i .i64)), (9, (.ptr 0 0))], [(0, .iter)], 1⟩
def U69_0 : Outs := [((.exit 0), ⟨[(0, .s), (1, (.i .i64))], [], 0⟩), (.ret, ⟨[(4, (.i .i64))], [], 0⟩)]
def B69_0 (p : (((List UInt8) × Int × Unit × Unit) × ((List UInt8 × Nat) × Unit))) : Option ((((List UInt8) × Int × Unit × Unit) × ((List UInt8 × Nat) × Unit)) ⊕ ((((List UInt8) × Int × Unit) × Unit) ⊕ ((Int × Unit) × Unit))) := (cond (decide (p.2.1.2 < List.length p.2.1.1)) (cond (decide ((0:Int) < ((p.2.1.2 : Nat) : Int))) (some (Sum.inr (Sum.inr ((((p.2.1.2 : Nat) : Int), ()), ())))) (some (Sum.inl ((p.1.1, p.1.2.1, (), ()), ((p.2.1.1, (p.2.1.2 + (Go.Utf8.decode ⟨List.toArray p.2.1.1⟩ p.2.1.2).2)), ()))))) (some (Sum.inr (Sum.inl ((p.1.1, p.1.2.1, ()), ())))))
def L69_0 (p : (((List UInt8) × Int × Unit × Unit) × ((List UInt8 × Nat) × Unit))) : Option ((((List UInt8) × Int × Unit) × Unit) ⊕ ((Int × Unit) × Unit)) := loopOf B69_0 p
def H69_0 : HT := .leaf
def F69 (p : ((List UInt8) × Int × Unit) × Unit) : Option (Int × Unit) := (Option.bind (cond (((decide ((0:Int) ≤ p.1.2.1)) && (decide (p.1.2.1 ≤ (((List.length p.1.1) : Nat) : Int)))) && (decide ((((List.length p.1.1) : Nat) : Int) ≤ (((List.length p.1.1) : Nat) : Int)))) (Option.bind (L69_0 ((p.1.1, p.1.2.1, (), ()), (((List.take ((Int.toNat (((List.length p.1.1) : Nat) : Int)) - (Int.toNat p.1.2.1)) (List.drop (Int.toNat p.1.2.1) p.1.1)), 0), ()))) fun p1 => (match p1 with | Sum.inl p2 => (some (Sum.inl ((p2.1.1, p2.1.2.1, ()), ()))) | Sum.inr q2 => (some (Sum.inr ((q2.1.1, ()), ()))))) none) fun (p3 : ((((List UInt8) × Int × Unit) × Unit) ⊕ ((Int × Unit) × Unit))) => (match p3 with | Sum.inl p4 => (some ((w64 ((((List.length p4.1.1) : Nat) : Int) - p4.1.2.1)), ())) | Sum.inr q4 => (some (q4.1.1, ()))))
def O69 : Orc := ⟨(.cons .s (.cons (.i .i64) .nil)), [], (.i .i64), [], F69⟩
def H69 : HT := (.two .leaf (.two (.join [(.normal, ⟨[(0, .s), (1, (.i .i64))], [], 0⟩), (.ret, ⟨[(4, (.i .i64))], [], 0⟩)] (.two .leaf (.one (.loop S69_0 U69_0 L69_0 H69_0)))) .leaf))
def X69 : List (FuncId × Orc) := []
def Y69 : List (FuncId × (List AV → Option AV)) := []
def Z69 : List (FuncId × Deed) := []
def I69 : List FuncId := []
theorem round69_0 (p) : round Go.Proofs.Try.prog (callX Go.Proofs.Try.prog (lookX X69) (lookM X69) (lookY Y69) (lookZ Z69) (hasN I69) 6) (mild (lookM X69) (lookY Y69)) 0 20 (subc (bodyOf Go.Proofs.Try.f69) [true, false, true, false, false]) H69_0 S69_0 U69_0 p = B69_0 p := by kernel_rfl
theorem run69 (p) : evTop Go.Proofs.Try.prog (callX Go.Proofs.Try.prog (lookX X69) (lookM X69) (lookY Y69) (lookZ Z69) (hasN I69) 6) (mild (lookM X69) (lookY Y69)) Go.Proofs.Try.f69 H69 O69 p = F69 p := by kernel_rfl
theorem ok69 : O69.OK Go.Proofs.Try.prog 69 :=
  ok_of mixed (X := X69) (Y := Y69) (Z := Z69) (I := I69) (d := 6) trivial trivial trivial trivial (by kernel_rfl) Go.Proofs.Try.func69 Go.Proofs.Try.call69 (c := bodyOf Go.Proofs.Try.f69) (by kernel_rfl) (h := H69) (by kernel_rfl)
    (ls := [⟨subc (bodyOf Go.Proofs.Try.f69) [true, false, true, false, false], H69_0, S69_0, U69_0, L69_0⟩]) (by kernel_rfl) ⟨LoopRec.of rfl round69_0, trivial⟩ run69

end Go.Qw
