/- What is handed on is handed to the continuation. -/
import Derived.Test.YtgfecebcaepjfaaGreatDoorEvG
namespace Go.Ev
open Go
section
variable {P : Program} {α : Type} {r : α}

theorem natOf_cps {x : AV} {K : Int → Option α} (h : natOf x K = some r) : ∃ n, K n = some r := by
  cases x <;> simp only [natOf, reduceCtorEq] at h <;> exact ⟨_, h⟩
theorem boundOf_cps {x : Option AV} {d : Int} {K : Int → Option α} (h : boundOf x d K = some r) : ∃ n, K n = some r := by
  cases x with
  | none => exact ⟨d, h⟩
  | some x => exact natOf_cps h
theorem cellsK_cps {x : AV} {K : List AV → Option α} (h : cellsK x K = some r) : ∃ cs, K cs = some r := by
  cases x <;> simp only [cellsK, reduceCtorEq] at h <;> first | exact ⟨_, h⟩ | exact ⟨_, (cond_some h).2⟩
theorem zeroCells_cps {t : TypeId} {K : List AV → Option α} (h : zeroCells P t K = some r) : ∃ cs, K cs = some r := by
  unfold zeroCells at h
  cases hi : P.info? t with
  | none => simp [hi] at h
  | some i =>
    simp only [hi] at h
    cases hz : i.zero with
    | none => simp [hz] at h
    | some z => simp only [hz] at h; exact cellsK_cps h
theorem fillAV_cps {fs : List Field} : ∀ {ps : List (Nat × AV)} {cs : List AV} {K : List AV → Option α}, fillAV P fs cs ps K = some r → ∃ cs', K cs' = some r
  | [], cs, K, h => ⟨cs, h⟩
  | (i, x) :: ps, cs, K, h => by
    simp only [fillAV] at h
    cases hf : fs[i]? with
    | none => simp [hf] at h
    | some f =>
      simp only [hf] at h
      obtain ⟨ws, h1⟩ := cellsK_cps h
      exact fillAV_cps (cond_some h1).2
theorem cellsAt_cps {cs : List AV} {o n : Nat} {ag : Bool} {K : AV → Option α} (h : cellsAt cs o n ag K = some r) : ∃ v, K v = some r := by
  unfold cellsAt at h
  cases ag with
  | true => exact ⟨_, (cond_some h).2⟩
  | false =>
    simp only [cond_false] at h
    cases hx : cs.drop o with
    | nil => simp [hx] at h
    | cons x rest => simp only [hx] at h; exact ⟨x, h⟩
theorem loadAV_cps {H : Nat → Blk} {t : TypeId} {x : AV} {K : AV → Option α} (h : loadAV P t x H K = some r) : ∃ v, K v = some r := by
  unfold loadAV at h
  cases hu : P.underlying t with
  | none => simp [hu] at h
  | some d =>
    simp only [hu] at h
    cases x <;> simp only [reduceCtorEq] at h
    case ptr b o => cases hb : H b <;> simp only [hb, reduceCtorEq] at h; exact cellsAt_cps h
    case ep b t' ix f => cases hb : H b <;> simp only [hb, reduceCtorEq] at h; exact cellsAt_cps (cond_some h).2
    case fp t' l ix f => exact cellsAt_cps h
theorem eqCell_cps {x y : AV} {K : Bool → Option α} (h : eqCell x y K = some r) : ∃ q, K q = some r := by
  cases x <;> cases y <;> simp only [eqCell, reduceCtorEq] at h <;> first | exact ⟨_, h⟩ | exact ⟨_, (cond_some h).2⟩
theorem eqFS_cps {fs : List Field} : ∀ {i : Nat} {xs ys : List AV} {K : Bool → Option α}, eqFS P i fs xs ys K = some r → ∃ q, K q = some r := by
  induction fs with
  | nil => intro i xs ys K h; cases xs <;> cases ys <;> simp only [eqFS, reduceCtorEq] at h; exact ⟨_, h⟩
  | cons f fs ih =>
    intro i xs ys K h
    cases xs with
    | nil => cases fs <;> simp [eqFS] at h
    | cons x xs =>
      cases ys with
      | nil => cases fs <;> cases xs <;> simp [eqFS] at h
      | cons y ys =>
        have gen : cond (f.name != "_" && Nat.beq f.offset i && flatTy P f.type x) (eqCell x y fun r => eqFS P (i + 1) fs xs ys fun q => K (r && q)) none = some r → ∃ q, K q = some r := fun hg => by
          obtain ⟨q, hq⟩ := eqCell_cps (cond_some hg).2
          obtain ⟨q', hq'⟩ := ih hq
          exact ⟨_, hq'⟩
        cases fs with
        | cons f' fs => exact gen (by cases xs <;> cases ys <;> simpa only [eqFS] using h)
        | nil =>
          cases xs with
          | cons x' xs => exact gen (by cases ys <;> simpa only [eqFS] using h)
          | nil =>
            cases ys with
            | cons y' ys => exact gen (by simpa only [eqFS] using h)
            | nil => simp only [eqFS] at h; exact eqCell_cps (cond_some h).2

theorem eqFS2_cps : ∀ {fs : List Field} {i : Nat} {xs ys : List AV} {K : Bool → Option α}, eqFS2 P i fs xs ys K = some r → ∃ q, K q = some r
  | [], i, xs, ys, K, h => by
    cases xs <;> cases ys <;> simp only [eqFS2, reduceCtorEq] at h
    exact ⟨_, h⟩
  | f :: fs, i, xs, ys, K, h => by
    simp only [eqFS2] at h
    split at h
    · obtain ⟨q, hq⟩ := eqFS_cps (cond_some h).2
      obtain ⟨q', hq'⟩ := eqFS2_cps hq
      exact ⟨_, hq'⟩
    · split at h
      · obtain ⟨q, hq⟩ := eqCell_cps (cond_some h).2
        obtain ⟨q', hq'⟩ := eqFS2_cps hq
        exact ⟨_, hq'⟩
      · cases h

theorem eqAgg_cps {t : TypeId} {xs ys : List AV} {K : Bool → Option α} (h : eqAgg P t xs ys K = some r) : ∃ q, K q = some r := by
  unfold eqAgg at h
  have h2 := (cond_some h).2
  split at h2
  · rename_i fs _
    cases hb : Nat.beq fs.size xs.length
    · rw [hb, cond_false] at h2
      exact eqFS2_cps h2
    · rw [hb, cond_true] at h2
      exact eqFS_cps h2
  · split at h2
    · obtain ⟨q, hq⟩ := eqCell_cps (cond_some h2).2
      obtain ⟨q', hq'⟩ := eqCell_cps hq
      exact ⟨_, hq'⟩
    · cases h2
  · cases h2

theorem nilEq_cps {e : Bool} {K : Bool → Option α} (h : nilEq e K = some r) : ∃ q, K q = some r := by
  unfold nilEq at h
  cases e
  · exact ⟨_, h⟩
  · exact ⟨_, (agr_some h).1⟩

theorem fillAr_cps {sz : Nat} : ∀ {ps : List (Nat × AV)} {cs : List AV} {K : List AV → Option α}, fillAr sz cs ps K = some r → ∃ cs', K cs' = some r
  | [], cs, K, h => ⟨cs, h⟩
  | (i, x) :: ps, cs, K, h => by
    simp only [fillAr] at h
    obtain ⟨ws, h1⟩ := cellsK_cps h
    exact fillAr_cps (cond_some h1).2

theorem evBin_cps {op : BinOp} {t : TypeId} {x y : AV} {K : AV → Option α} (h : evBin P op t x y K = some r) : ∃ v, K v = some r := by
  unfold evBin at h
  split at h
  · have h2 := (cond_some h).2
    cases op <;> simp only [intBin, reduceCtorEq] at h2 <;> exact ⟨_, h2⟩
  · cases op <;> simp only [u8Bin, reduceCtorEq] at h <;> exact ⟨_, h⟩
  · cases op <;> simp only [strBin, reduceCtorEq] at h <;> exact ⟨_, h⟩
  · cases op <;> simp only [reduceCtorEq] at h <;> (obtain ⟨q, hq⟩ := eqAgg_cps h; exact ⟨_, hq⟩)
  · have h2 := (cond_some h).2
    cases op <;> simp only [reduceCtorEq] at h2 <;> (obtain ⟨q, hq⟩ := eqCell_cps h2; exact ⟨_, hq⟩)

theorem evBinS_cps {op : BinOp} {t : TypeId} {x y : AV} {K : Bool → AV → Option α} (h : evVal.evBinS P op t x y K = some r) : ∃ s v, K s v = some r := by
  unfold evVal.evBinS at h
  split at h
  · exact ⟨_, _, (cond_some h).2⟩
  · exact ⟨_, _, (cond_some h).2⟩
  · exact ⟨_, _, h⟩
  · exact ⟨_, _, h⟩
  · exact ⟨_, _, h⟩
  · exact ⟨_, _, h⟩
  · exact ⟨_, _, h⟩
  · exact ⟨_, _, h⟩
  · obtain ⟨q, hq⟩ := nilEq_cps (cond_some h).2; exact ⟨_, _, hq⟩
  · obtain ⟨q, hq⟩ := nilEq_cps (cond_some h).2; exact ⟨_, _, hq⟩
  · split at h
    · exact ⟨_, _, h⟩
    · obtain ⟨v, hv⟩ := evBin_cps h; exact ⟨_, v, hv⟩
  · split at h
    · exact ⟨_, _, h⟩
    · obtain ⟨v, hv⟩ := evBin_cps h; exact ⟨_, v, hv⟩
  · obtain ⟨v, hv⟩ := evBin_cps h; exact ⟨_, v, hv⟩

theorem evUn_cps {op : UnOp} {x : AV} {K : AV → Option α} (h : evUn op x K = some r) : ∃ v, K v = some r := by
  unfold evUn at h
  split at h
  · exact ⟨_, h⟩
  · exact ⟨_, h⟩
  · exact ⟨_, h⟩
  · cases h

theorem items_cps {H : Nat → Blk} {t : Ty} {x : AV} {K : List t.den → Option α} (h : items H t x K = some r) : ∃ l, K l = some r := by
  unfold items at h
  split at h
  · split at h
    · exact ⟨_, h⟩
    · cases h
  · exact ⟨_, h⟩
  · split at h
    · split at h
      · exact ⟨_, h⟩
      · cases h
    · cases h
  · split at h
    · split at h
      · exact ⟨_, h⟩
      · cases h
    · cases h
  · cases h

theorem lenOf_cps {H : Nat → Blk} {x : AV} {K : Nat → Option α} (h : lenOf H x K = some r) : ∃ n, K n = some r := by
  unfold lenOf at h
  split at h
  · exact ⟨_, h⟩
  · exact ⟨_, h⟩
  · split at h
    · exact ⟨_, h⟩
    · cases h
  · exact ⟨_, h⟩
  · cases h

theorem evVal_cps {op : Op} {ρ : Operand → AV} {H : Nat → Blk} {K : Bool → AV → Option α} (h : evVal P op ρ H K = some r) : ∃ s v, K s v = some r := by
  cases op <;> simp only [evVal, reduceCtorEq] at h
  case move => exact ⟨_, _, h⟩
  case makeInterface => exact ⟨_, _, (cond_some h).2⟩
  case assign => exact ⟨_, _, h⟩
  case pick c a b =>
    cases hcv : ρ c <;> simp only [hcv, reduceCtorEq] at h
    case kb x => cases x <;> exact ⟨_, _, h⟩
    case b cv =>
      split at h
      · split at h
        · exact ⟨_, _, h⟩
        · exact ⟨_, _, h⟩
        · cases h
      · split at h
        · exact ⟨_, _, h⟩
        · exact ⟨_, _, h⟩
        · cases h
      · cases h
  case build t parts =>
    split at h
    · obtain ⟨z, hz⟩ := zeroCells_cps (cond_some h).2
      obtain ⟨c, hc⟩ := fillAV_cps hz
      exact ⟨_, _, hc⟩
    · obtain ⟨z, hz⟩ := zeroCells_cps (cond_some h).2
      obtain ⟨c, hc⟩ := fillAr_cps hz
      exact ⟨_, _, hc⟩
    · cases h
  case load t x => obtain ⟨v, hv⟩ := loadAV_cps h; exact ⟨_, v, hv⟩
  case nilCheck x => split at h <;> first | exact ⟨_, _, h⟩ | cases h
  case binOp => exact evBinS_cps h
  case unOp => obtain ⟨v, hv⟩ := evUn_cps h; exact ⟨_, v, hv⟩
  case convert =>
    split at h
    · exact ⟨_, _, h⟩
    · exact ⟨_, _, h⟩
    · cases h
    · exact ⟨_, _, h⟩
    · exact ⟨_, _, h⟩
    · exact ⟨_, _, h⟩
    · exact ⟨_, _, h⟩
    · split at h
      · obtain ⟨l, hl⟩ := items_cps h; exact ⟨_, _, hl⟩
      · cases h
    · cases h
  case makeFunc fn first caps =>
    cases fn <;> simp only [reduceCtorEq] at h
    exact ⟨_, _, (cond_some h).2⟩
  case fieldAddr =>
    split at h
    · split at h <;> first | exact ⟨_, _, h⟩ | cases h
    · cases h
  case field =>
    split at h
    · split at h
      · split at h
        · obtain ⟨v, hv⟩ := cellsAt_cps h; exact ⟨_, v, hv⟩
        · cases h
      · cases h
    · cases h
  case slice t x lo hi mx =>
    have bnd : ∀ {v1 v2 : Option AV} {d1 d2 : Int} {K' : Int → Int → Option α}, (boundOf v1 d1 fun a => boundOf v2 d2 fun z => K' a z) = some r → ∃ a z, K' a z = some r := fun hh => by
      obtain ⟨a, ha⟩ := boundOf_cps hh
      obtain ⟨z, hz⟩ := boundOf_cps ha
      exact ⟨a, z, hz⟩
    cases mx with
    | some m => simp at h
    | none =>
      simp only at h
      split at h
      · split at h
        · obtain ⟨a, z, hz⟩ := bnd h; exact ⟨_, _, hz⟩
        · cases h
      · split at h
        · obtain ⟨a, z, hz⟩ := bnd (cond_some h).2; exact ⟨_, _, hz⟩
        · split at h
          · obtain ⟨a, z, hz⟩ := bnd (cond_some h).2; exact ⟨_, _, hz⟩
          · cases h
        · split at h
          · obtain ⟨a, z, hz⟩ := bnd (cond_some h).2; exact ⟨_, _, hz⟩
          · cases h
        · cases h
      · cases h
  case indexAddr =>
    split at h
    · obtain ⟨i, hi⟩ := natOf_cps h
      split at hi
      · exact ⟨_, _, (cond_some hi).2⟩
      · split at hi
        · exact ⟨_, _, (cond_some hi).2⟩
        · cases hi
      · split at hi
        · exact ⟨_, _, (cond_some hi).2⟩
        · cases hi
      · cases hi
    · obtain ⟨i, hi⟩ := natOf_cps h
      have hi := (cond_some hi).2
      split at hi
      · exact ⟨_, _, (pickIx_ok hi).2.2⟩
      · exact ⟨_, _, (pickIx_ok hi).2.2⟩
      · exact ⟨_, _, (pickIx_ok hi).2.2⟩
      · cases hi
    · cases h
  case index =>
    split at h
    · obtain ⟨i, hi⟩ := natOf_cps h; exact ⟨_, _, hi⟩
    · split at h
      · obtain ⟨i, hi⟩ := natOf_cps h
        obtain ⟨v, hv⟩ := cellsAt_cps (pickIx_ok hi).2.2
        exact ⟨_, v, hv⟩
      · cases h
    · cases h
  case extract =>
    split at h
    · split at h
      · exact ⟨_, _, h⟩
      · cases h
    · cases h
  case call c =>
    obtain ⟨callee, args, argTypes⟩ := c
    cases callee <;> first | (cases h; done) | skip
    rename_i b
    cases b <;> first | (cases h; done) | skip
    case len =>
      simp only at h
      split at h
      · split at h
        · split at h
          · exact ⟨_, _, h⟩
          · cases h
        · obtain ⟨n, hn⟩ := lenOf_cps h; exact ⟨_, _, hn⟩
        · cases h
      · cases h
    case min =>
      simp only at h
      split at h
      · unfold least at h
        split at h
        · exact ⟨_, _, (cond_some h).2⟩
        · cases h
      · cases h
    case max =>
      simp only at h
      split at h
      · unfold most at h
        split at h
        · exact ⟨_, _, (cond_some h).2⟩
        · cases h
      · cases h

end
end Go.Ev
