/- Functions. -/
import Derived.Test.YtgfecebcaepjfaaGreatDoorEvQ
namespace Go.Ev
open Go
section
variable {P : Program} {F : Frm (tabsOf P)} {μ μ' : Nat → Option Nat} {S S' : St} {w w' : World} {a a' : Act} {α : Type} {r : α} {M : FuncId → Bool} {pin : Nat}

def resStep (tmps : Array Value) : ResultVar → Sem Value
  | .tmp t => pure (tmps.getD t undef)
  | .cell a t => do loadVar t (← asAddr (tmps.getD a undef))

theorem results_eq (fn : Func) (tmps : Array Value) : results fn tmps = (do
    let vs ← fn.results.toList.mapM (resStep tmps)
    pure (if h : vs.toArray.size = 1 then vs.toArray[0] else .tuple vs.toArray)) := by
  unfold results
  rw [Array.mapM_eq_mapM_toList]
  simp only [bind_map_left]
  congr 1

theorem resAV_ok (hr : Rg F μ [] S a w) : ∀ (rs : List ResultVar) {K : List AV → Option α}, resAV P S rs K = some r →
    ∃ vs vals, K vs = some r ∧ RelVs w (Not F μ S.H) μ S.H vs vals ∧ (rs.mapM (resStep a.tmps)).run P w = .ok vals w
  | [], K, h => by
    simp only [resAV] at h
    exact ⟨[], [], h, by simp [RelVs], by simp⟩
  | .tmp t :: rs, K, h => by
    simp only [resAV] at h
    obtain ⟨vs, vals, h1, h2, h3⟩ := resAV_ok hr rs h
    refine ⟨_, a.tmps.getD t undef :: vals, h1, ?_, ?_⟩
    · simp only [RelVs]
      exact ⟨_, _, rfl, hr.e.slot fun j b y hh => absurd (hr.tags _ _ _ _ hh) (by simp), h2⟩
    · simp [resStep, h3]
  | .cell b t :: rs, K, h => by
    simp only [resAV] at h
    have hs := hr.e.slot (t := b) fun j b' y hh => absurd (hr.tags _ _ _ _ hh) (by simp)
    obtain ⟨y, val, hK, hy, hrun⟩ := loadAV_ok (P := P) (X := fun _ _ => False) hr.hp hs (fun _ _ _ _ _ h => h) h
    obtain ⟨vs, vals, h1, h2, h3⟩ := resAV_ok hr rs hK
    refine ⟨_, val :: vals, h1, ?_, ?_⟩
    · simp only [RelVs]
      exact ⟨_, _, rfl, hy, h2⟩
    · have h4 := hrun w (Agr.refl _)
      have hp : ∃ ad, a.tmps.getD b undef = .pointer (some ad) := by
        unfold loadAV at h
        cases hu : P.underlying t with
        | none => simp [hu] at h
        | some d =>
          simp only [hu] at h
          cases hE : S.E b <;> simp only [hE, RelV, reduceCtorEq] at h hs
          · obtain ⟨_, g, o, _, _, h5, _⟩ := hs; exact ⟨_, h5⟩
          · obtain ⟨_, g, _, h5⟩ := hs; exact ⟨_, h5⟩
          · obtain ⟨_, g, _, _, _, h5⟩ := hs; exact ⟨_, h5⟩
      obtain ⟨ad, had⟩ := hp
      rw [had] at h4
      have h5 : (loadVar t ad).run P w = .ok val w := by
        simpa [Instr.loadAt, Instr.sureAddr] using h4
      simp [resStep, had, asAddr, h3, h5]

theorem argsE_ok {N : Nat → Prop} {H : Nat → Blk} : ∀ (args : List AV) (vals : List Value) (k : Nat) (tmps : Array Value), RelVs w N μ H args vals → (∀ i, (h : i < vals.length) → tmps.getD (k + i) undef = vals[i]) →
    ∀ t, RelV w N μ H (argsE k args t) (tmps.getD t undef) ∧ ∀ j b x, argsE k args t ≠ .gd j b x
  | [], _, _, _, _, _, t => by simp [argsE, RelV]
  | x :: r, vals, k, tmps, h, ht, t => by
    simp only [RelVs] at h
    obtain ⟨v, vr, rfl, h1, h2⟩ := h
    simp only [argsE]
    by_cases hk : t = k
    · subst hk
      rw [upd_same]
      have := ht 0 (by simp)
      simp only [Nat.add_zero, List.getElem_cons_zero] at this
      rw [this]
      exact ⟨noGd_rel h1, noGd_ne _⟩
    · rw [upd_other hk]
      refine argsE_ok r vr (k + 1) tmps h2 (fun i hi => ?_) t
      have := ht (i + 1) (by simp; omega)
      simpa [Nat.add_assoc, Nat.add_comm 1 i] using this

theorem resVal {vs : List AV} {vals : List Value} {K : AV → Option α} {N : Nat → Prop} {H : Nat → Blk} (hK : (match vs with
      | [v] => K v
      | vs => K (.tup vs)) = some r) (h : RelVs w N μ H vs vals) : ∃ v, K v = some r ∧ RelV w N μ H v (if h : vals.toArray.size = 1 then vals.toArray[0] else .tuple vals.toArray) := by
  have hl := RelVs_length h
  split at hK
  · rename_i v
    simp only [RelVs] at h
    obtain ⟨x, y, rfl, h1, rfl⟩ := h
    exact ⟨v, hK, by simpa using h1⟩
  · rename_i hne
    refine ⟨_, hK, ?_⟩
    have : ¬ vals.toArray.size = 1 := by
      intro h1
      simp only [List.size_toArray] at h1
      rw [h1] at hl
      cases vs with
      | nil => simp at hl
      | cons x r => cases r with
        | nil => exact hne x rfl
        | cons _ _ => simp at hl
    rw [dif_neg this]
    simp only [RelV]
    exact ⟨vals, rfl, h⟩

/-- Where a function's body begins. -/
def inSt (args : List AV) (S : St) : St := ⟨argsE 0 args, S.H, S.nx, []⟩

theorem evFn_ok (hm : P.follows .mixedOrders = true) {C : Calling} (hC : CallOK P C M) {f : FuncId} {fn : Func} (hf : P.funcs[f]? = some fn) {h : HT} {args : List AV} {K : AV → St → Option α}
    (hl : ∀ c, fn.body = some c → ∀ x ∈ loopsIn c (strip h), x.OK P C M pin fn.ntmps) (he : evFn P C M pin fn h args S K = some r)
    {vals : List Value} (hp : Hp F μ S.H S.nx w) (hargs : RelVs w (Not F μ S.H) μ S.H args vals) (hpin : pin ≤ S.nx) :
    Calls P f vals.toArray w (fun e w' => ∃ v S' μ' a a' val, EndR e v val ∧ K v ⟨killsE S'.kl S.E, S'.H, S'.nx, S.kl ++ S'.kl⟩ = some r ∧
      RelV w' (Not F μ' S'.H) μ' S'.H v val ∧ CP (isLeaf h) F pin μ (inSt args S) w a μ' S' w' a') := by
  unfold evFn at he
  cases hb : fn.body with
  | none => simp [hb] at he
  | some c =>
    simp only [hb] at he
    obtain ⟨hle, he⟩ := cond_some he
    have hle := Nat.le_of_ble_eq_true hle
    have hlen := RelVs_length hargs
    refine calls_of_wp hf hb ?_
    have hsz : (vals.toArray ++ Array.replicate (fn.ntmps - vals.toArray.size) undef).size = fn.ntmps := by simp; omega
    have hE := argsE_ok args vals 0 (vals.toArray ++ Array.replicate (fn.ntmps - vals.toArray.size) undef) hargs (fun i hi => by simp [Array.getD_eq_getD_getElem?, Array.getElem?_append, hi])
    have hrg : Rg F μ [] (inSt args S) ⟨vals.toArray ++ Array.replicate (fn.ntmps - vals.toArray.size) undef, []⟩ w := by
      refine ⟨hp, fun t => ?_, fun t j b x hh => absurd hh ((hE t).2 j b x)⟩
      obtain ⟨h1, h2⟩ := hE t
      show (match argsE 0 args t with
        | .gd j b x => _
        | x => RelV w _ _ _ x _)
      cases hu : argsE 0 args t <;> rw [hu] at h1 h2 <;> first | exact h1 | exact absurd rfl (h2 _ _ _)
    have hj := joined_ok (ev_ok hm hC c (strip h) (hl c hb))
    refine wp_mono (hj (inSt args S) α _ r he F μ w _ hsz.symm hpin hrg) fun e a' w' ⟨ex, S', μ', av, h1, h2, h3⟩ => ?_
    have key : a' = av → (resAV P S' fn.results.toList fun vs => match vs with
      | [v] => cond (noPan v) (K v ⟨killsE S'.kl S.E, S'.H, S'.nx, S.kl ++ S'.kl⟩) none
      | vs => K (.tup vs) ⟨killsE S'.kl S.E, S'.H, S'.nx, S.kl ++ S'.kl⟩) = some r → a'.defers = [] ∧ ∃ v, (results fn a'.tmps).run P w' = .ok v w' ∧
        ∃ v' S' μ' a a' val, EndR (Ending.returned v) v' val ∧ K v' ⟨killsE S'.kl S.E, S'.H, S'.nx, S.kl ++ S'.kl⟩ = some r ∧ RelV w' (Not F μ' S'.H) μ' S'.H v' val ∧ CP (isLeaf h) F pin μ (inSt args S) w a μ' S' w' a' := fun hav hres => by
      subst hav
      obtain ⟨vs, us, k1, k2, k3⟩ := resAV_ok (P := P) h3.rg _ hres
      obtain ⟨v, k4, k5⟩ := resVal (K := fun v => cond (noPan v) (K v ⟨killsE S'.kl S.E, S'.H, S'.nx, S.kl ++ S'.kl⟩) none) (by
        split at k1
        · exact k1
        · exact k1) k2
      obtain ⟨k6, k7⟩ := cond_some k4
      refine ⟨h3.defers, _, ?_, v, S', μ', _, a', _, (EndR.ret k6).2 rfl, k7, k5, h3⟩
      rw [results_eq]
      simp only [Sem.run_bind, k3, Result.andThen_ok, Sem.run_pure]
    cases ex with
    | exit id => simp at h2
    | normal => obtain ⟨rfl, hav⟩ := h1; exact key hav h2
    | ret => obtain ⟨rfl, hav⟩ := h1; exact key hav h2
    | pan =>
      obtain ⟨rfl, hd⟩ := h1
      refine ⟨hd.trans h3.defers, .pan (S'.E 0), S', μ', _, av, _, rfl, h2, ?_, h3⟩
      have := h3.rg.e.slot (t := 0) fun j b y hh => absurd (h3.rg.tags _ _ _ _ hh) (by simp)
      simpa only [RelV] using this

end
end Go.Ev
