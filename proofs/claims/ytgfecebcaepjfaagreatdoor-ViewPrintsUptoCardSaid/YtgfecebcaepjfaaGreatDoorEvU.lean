/- Functions that call, and what is known of them. -/
import Derived.Test.YtgfecebcaepjfaaGreatDoorEvq6
namespace Go.Ev
open Go
section
variable {P : Program} {F : Frm (tabsOf P)} {μ : Nat → Option Nat} {w w' : World} {α : Type} {r : α} {M : FuncId → Bool}

theorem strip_leaf : strip HT.leaf = .leaf := rfl

theorem loopsIn_leaf : ∀ (c : Code), loopsIn c .leaf = []
  | .seq a b => by simp [loopsIn, HT.fst, HT.snd, strip_leaf, loopsIn_leaf a, loopsIn_leaf b]
  | .cond _ a b => by simp [loopsIn, HT.fst, HT.snd, strip_leaf, loopsIn_leaf a, loopsIn_leaf b]
  | .block _ a => by simp [loopsIn, HT.fst, strip_leaf, loopsIn_leaf a]
  | .loop _ => rfl
  | .skip => rfl
  | .exit _ => rfl
  | .ret => rfl
  | .region _ _ _ => rfl
  | .label _ => rfl
  | .goto _ => rfl
  | .scope a => by simp [loopsIn, HT.fst, strip_leaf, loopsIn_leaf a]
  | .rangeFunc _ _ _ _ => rfl
  | .refuse _ => rfl

/-- What the model itself answers, told rightly. -/
def NvOK (P : Program) (f : FuncId) (g : List AV → Option AV) : Prop :=
  ∀ args v, g args = some v → ∀ w N μ H vals, RelVs w N μ H args vals → ∃ val, RelV w N μ H v val ∧ ∀ w1, (callFunc f vals.toArray).run P w1 = .ok (.value val) w1

/-- A function that only yields a value, told by its contract; it may read the tables. -/
def PvOK (P : Program) (f : FuncId) (g : List AV → Option AV) : Prop :=
  Enters P f ∧ ∀ args v, g args = some v → ∀ w N μ H vals, (tabsOf P).tab w → RelVs w N μ H args vals →
    Calls P f vals.toArray w fun e w' => ∃ val, e = .returned val ∧ (∀ w1 N1 μ1 H1, RelV w1 N1 μ1 H1 v val) ∧ RowKit.Below w.heap.size w w'

def YOK (P : Program) (f : FuncId) (g : List AV → Option AV) : Prop := NvOK P f g ∨ PvOK P f g

/-- A deed, told rightly. -/
def ZOK (P : Program) (f : FuncId) (z : Deed) : Prop :=
  Enters P f ∧ ∀ (args : List AV) (S : St) (v : AV) (S' : St), z args S = some (true, v, S') → ∀ (F : Frm (tabsOf P)) μ w vals, Hp F μ S.H S.nx w → RelVs w (Not F μ S.H) μ S.H args vals →
    Calls P f vals.toArray w fun e w' => ∃ μ' kl val, e = .returned val ∧ S'.E = killsE kl S.E ∧ S'.kl = S.kl ++ kl ∧ Hp F μ' S'.H S'.nx w' ∧ Pl F μ S.H S.nx w kl μ' S'.H S'.nx w' ∧ RelV w' (Not F μ' S'.H) μ' S'.H v val

theorem callX_ok (hm : P.follows .mixedOrders = true) {X : FuncId → List AV → Option Orc} {B : FuncId → Option Bool} {Y : FuncId → Option (List AV → Option AV)} {Z : FuncId → Option Deed} {I : FuncId → Bool} (hX : ∀ f args o, X f args = some o → o.OK P f) (hB : ∀ f args o, X f args = some o → ∃ b, B f = some b ∧ (b = true → o.blks = []))
    (hBY : ∀ f b, B f = none → b ∈ Y f → YOK P f b) (hY : ∀ f g, Y f = some g → B f = none) (hZ : ∀ f z, Z f = some z → ZOK P f z ∧ B f = none ∧ Y f = none) (hI : ∀ f, I f = true → Enters P f ∧ B f = none ∧ Y f = none) : ∀ d, CallOK P (callX P X B Y Z I d) (mild B Y)
  | 0 => fun f args S α K r h => by cases h
  | d + 1 => fun f args S α K r h F μ w vals hp hargs => by
    simp only [callX] at h
    cases hXf : X f args with
    | some o =>
      simp only [hXf] at h
      have ho := hX f args o hXf
      refine .inl ⟨fun w1 => ho.enters _ _, (o.call_ok ho h hp hargs).mono fun e w' ⟨v, S', μ', kl, val, h1, h2, h3, h4, h5, h6, h7, h8⟩ => ⟨v, S', μ', kl, val, h1, h2, h3, h4, h5, h6, h7, fun hM => h8 ?_⟩⟩
      obtain ⟨b, hb1, hb2⟩ := hB f args o hXf
      simp only [mild, hb1] at hM
      exact hb2 hM
    | none =>
      simp only [hXf] at h
      cases hYf : Y f with
      | some g =>
        simp only [hYf] at h
        cases hg : g args with
        | none => simp [hg] at h
        | some v =>
          simp only [hg] at h
          obtain ⟨hnp, h⟩ := cond_some h
          rcases hBY f g (hY f g hYf) hYf with hY | ⟨hen, hpv⟩
          · obtain ⟨val, h1, h2⟩ := hY args v hg w _ _ _ vals hargs
            exact .inr ⟨v, val, hnp, h, h1, h2⟩
          · refine .inl ⟨fun w1 => hen _ _, (hpv args v hg w _ _ _ vals hp.tab hargs).mono fun e w' ⟨val, h1, h2, bel⟩ => ?_⟩
            exact ⟨v, S, μ, [], val, (EndR.ret hnp).2 h1, h, rfl, by simp, hp.keep ⟨bel.size, fun g hg _ => bel.block g hg⟩ fun g ⟨b, hb, hg⟩ => bel.block g (hp.lt b g hb hg),
              Pl.keep hp ⟨⟨bel.size, fun g hg _ => bel.block g hg⟩, bel.os, bel.tape, bel.output⟩, h2 _ _ _ _, fun _ => ⟨bel.size, fun g hg _ => bel.block g hg⟩⟩
      | none =>
        simp only [hYf] at h
        cases hZf : Z f with
        | some z =>
          simp only [hZf] at h
          obtain ⟨⟨hen, hz⟩, hb1, hb2⟩ := hZ f z hZf
          cases hza : z args S with
          | none => simp [hza] at h
          | some q =>
            obtain ⟨side, v, S'⟩ := q
            simp only [hza] at h
            obtain ⟨hs, hK⟩ := need_some h
            subst hs
            obtain ⟨hnp, hK⟩ := cond_some hK
            refine .inl ⟨fun w1 => hen _ _, (hz args S v S' hza F μ w vals hp hargs).mono fun e w' ⟨μ', kl, val, h1, h2, h3, h4, h5, h6⟩ => ⟨v, S', μ', kl, val, (EndR.ret hnp).2 h1, hK, h2, h3, h4, h5, h6, fun hM => ?_⟩⟩
            simp [mild, hb1, hb2] at hM
        | none =>
        simp only [hZf] at h
        cases hIf : I f with
        | false => simp [hIf] at h
        | true =>
          cases hfn : P.funcs[f]? with
          | none => simp [hIf, hfn] at h
          | some fn =>
            simp only [hIf, hfn] at h
            obtain ⟨hI1, hI2, hI3⟩ := hI f hIf
            refine .inl ⟨fun w1 => hI1 _ _, ?_⟩
            refine (evFn_ok hm (callX_ok hm hX hB hBY hY hZ hI d) hfn (h := .leaf) (fun c _ x hx => by rw [strip_leaf, loopsIn_leaf] at hx; cases hx) h hp hargs (Nat.zero_le _)).mono ?_
            intro e w' ⟨v, S', μ', a, a', val, h1, h2, h3, h4⟩
            obtain ⟨kl, k1, k2⟩ := h4.pl rfl
            have k3 : S'.kl = kl := by simpa [inSt] using k1
            refine ⟨v, _, μ', kl, val, h1, h2, by simp only; rw [k3], by simp only; rw [k3], h4.rg.hp, k2, h3, fun hM => ?_⟩
            simp [mild, hI2, hI3] at hM

theorem findB_id {n j : Nat} (h : j < n) : findB ((List.range n).map fun j => (j, some j)) j = some (some j) := by
  have key : ∀ l : List Nat, j ∈ l → findB (l.map fun j => (j, some j)) j = some (some j) := by
    intro l
    induction l with
    | nil => intro h; cases h
    | cons x l ih =>
      intro hm
      simp only [List.map_cons, findB]
      cases hx : Nat.beq x j with
      | true => rw [Nat.eq_of_beq_eq_true hx]; rfl
      | false =>
        rcases List.mem_cons.1 hm with rfl | hm
        · simp at hx
        · exact ih hm
  exact key _ (List.mem_range.2 h)

theorem packV_np {H : Nat → Blk} : ∀ (v : VSh) (x : AV) (B : Bd) (K : v.den → Bd → Option α), noPan x = true → packV H v x B K = some r → ∀ p : v.den, noPan (unV v p) = true := fun v x B K _ h p => by
  cases v
  case may v1 v2 => cases x <;> simp [packV] at h
  all_goals rfl

theorem packR_ok {pin : Nat} {bl : List (Nat × BSh)} {H : Nat → Blk} {nx : Nat} (hp : Hp F μ H nx w) (v : VSh) (x : AV) (B : Bd) (K : v.den → Bd → Option α) (val : Value) (e : Ending) (he : EndR e x val) (hx : RelV w (Not F μ H) μ H x val) (h : packR H v x B K = some r) :
    ∃ p B', K p B' = some r ∧ Ext B B' ∧ EndR e (unV v p) val ∧ ∀ (F' : Frm (tabsOf P)) Bf H', Ext B' Bf → Fin F F' μ pin H bl Bf H' → refsOK bl v = true → RelV w (Not F' (muB μ Bf) H') (muB μ Bf) H' (unV v p) val := by
  have plain : noPan x = true → ∀ (v : VSh) (K : v.den → Bd → Option α), packV H v x B K = some r → ∃ p B', K p B' = some r ∧ Ext B B' ∧ EndR e (unV v p) val ∧ ∀ (F' : Frm (tabsOf P)) Bf H', Ext B' Bf → Fin F F' μ pin H bl Bf H' → refsOK bl v = true → RelV w (Not F' (muB μ Bf) H') (muB μ Bf) H' (unV v p) val := fun hn v K h => by
    obtain ⟨p, B', h1, h2, h3⟩ := packV_ok (pin := pin) (bl := bl) hp v x B K val hx h
    exact ⟨p, B', h1, h2, (EndR.ret (packV_np v x B K hn h p)).2 ((EndR.ret hn).1 he), h3⟩
  cases hn : noPan x with
  | true =>
    cases v
    case may v1 v2 =>
      have h' : packV H v1 x B (fun p B => K (Sum.inl p) B) = some r := by
        cases x <;> first | exact h | (simp [noPan] at hn)
      obtain ⟨p, B', h1, h2, h3, h4⟩ := plain hn v1 _ h'
      refine ⟨Sum.inl p, B', h1, h2, h3, fun F' Bf H' g1 g2 g3 => ?_⟩
      simp only [refsOK, Bool.and_eq_true] at g3
      exact h4 F' Bf H' g1 g2 g3.1
    all_goals
      refine plain hn _ K ?_
      cases x <;> first | exact h | (simp [noPan] at hn)
  | false =>
    cases x <;> simp only [noPan, Bool.true_eq_false] at hn
    rename_i y
    cases v
    case may v1 v2 =>
      have h' : packV H v2 y B (fun q B => K (Sum.inr q) B) = some r := h
      simp only [RelV] at hx
      obtain ⟨p, B', h1, h2, h3⟩ := packV_ok (pin := pin) (bl := bl) hp v2 y B _ val hx h'
      refine ⟨Sum.inr p, B', h1, h2, he, fun F' Bf H' g1 g2 g3 => ?_⟩
      simp only [refsOK, Bool.and_eq_true] at g3
      have := h3 F' Bf H' g1 g2 g3.2
      exact this
    all_goals simp [packR] at h

/-- What is told of a function holds, if evaluation says the same. -/
theorem evTop_ok (hm : P.follows .mixedOrders = true) {C : Calling} (hC : CallOK P C M) {f : FuncId} {fn : Func} (hf : P.funcs[f]? = some fn) (hen : Enters P f) {h : HT} {o : Orc} (hfit : o.fits = true)
    (hl : ∀ c, fn.body = some c → ∀ x ∈ loopsIn c (strip h), x.OK P C M o.blks.length fn.ntmps) (hrun : ∀ p r, o.run p = some r → evTop P C M fn h o p = some r) : o.OK P f := by
  refine ⟨hen, hfit, fun p r hr F μ w vals hp hargs => ?_⟩
  have he := hrun p r hr
  unfold evTop at he
  refine (evFn_ok hm hC hf hl he hp hargs (Nat.le_refl _)).mono fun e w' ⟨v, S', μ', a, a', val, h1, h2, h3, h4⟩ => ?_
  have hfits := hfit
  simp only [Orc.fits, Bool.and_eq_true, List.all_eq_true] at hfits
  obtain ⟨⟨⟨⟨⟨fnd, frange⟩, fargs⟩, fout⟩, fblks⟩, foblks⟩ := hfits
  have hp' := h4.rg.hp
  obtain ⟨x, B1, k1, k2, hend, k3⟩ := packR_ok (pin := o.blks.length) (bl := o.oblks) hp' o.out v _ _ val e h1 h3 h2
  obtain ⟨y, B, k4, k5, k6, k7, k8, k9⟩ := packBlks_ok (bl := o.oblks) hp' o.oblks k1
  obtain ⟨hB, k10⟩ := cond_some k4
  simp only [Option.some.injEq] at k10
  have hfin : Fin F F μ' o.blks.length S'.H o.oblks B (unBlks o.oblks y) := ⟨hB, k6, k7, fun _ h => .inl h, fun b g _ hl hm => hp'.apart b g hl hm⟩
  have hhp : Hp F (muB μ' B) (unBlks o.oblks y) (o.blks.length + o.oblks.length) w' := by
    refine hfin.hp hp' (fun j => k9 F B _ (Ext.refl B) hfin (List.all_eq_true.2 fun x hx => (foblks x hx).1.2) j) (fun j hj => ?_) (fun _ b g _ _ hl hm => hp'.apart b g hl hm) hp'.flt
    by_cases hd : unBlks o.oblks y j = .dead
    · exact hd
    · obtain ⟨x, hx, rfl⟩ := k8 j hd
      have := Nat.le_of_ble_eq_true (foblks x hx).1.1
      omega
  have hv := k3 F B _ k5 hfin fout
  subst k10
  refine ⟨val, muB μ' B, _, hend, hhp, hv, h4.chg, fun g hg => h4.new g (hfin.trk hg), fun j hj => (hfin.pinned j hj).trans (h4.pinned j hj)⟩

def noF {T : Tb} : Frm T := ⟨fun _ => False⟩

/-- A statement's function. -/
theorem told {f : FuncId} {A : VSh} {run : A.den × blksDen [] → Option (VSh.den .b × blksDen [])} (ho : Orc.OK P f ⟨A, [], .b, [], run⟩) {p : A.den} (hrun : run (p, ()) = some (true, ())) {vals : List Value} (ht : (tabsOf P).tab w)
    (hargs : RelVs w (Not (noF : Frm (tabsOf P)) (fun _ => none) fun _ => .dead) (fun _ => none) (fun _ => .dead) (unL A p) vals) :
    Calls P f vals.toArray w fun e w' => e = .returned (.bool true) ∧ RowKit.Below w.heap.size w w' := by
  have hp : Hp (noF : Frm (tabsOf P)) (fun _ => none) (unBlks [] ()) 0 w := ⟨fun b => by simp [unBlks, RelB], fun b g h => absurd rfl h, fun b b' g h => absurd rfl h, fun _ _ => rfl, fun b g h => absurd rfl h, fun g h => h.elim, ht, fun b g h => absurd rfl h⟩
  refine (ho.run (p, ()) _ hrun noF (fun _ => none) w vals hp hargs).mono fun e w' ⟨val, μ', nx', h1, h2, h3, h4, _⟩ => ⟨?_, h4.os, h4.tape, h4.output, h4.size, fun k hk => h4.keep k hk fun ⟨j, h, _⟩ => h rfl⟩
  have h1 : e = .returned val := h1
  simp only [unV, RelV] at h3
  rw [h1, h3]

/-! Loops. -/
/-- more rounds than any loop ever has -/
def FUEL : Nat := 9223372036854775808

def loopOf {σ τ : Type} (body : σ → Option (σ ⊕ τ)) (p : σ) : Option τ := iter body FUEL p

theorem LoopRec.of {C : Calling} {pin n : Nat} {c : Code} {h : HT} {sh : Shape} {o : Outs} {run : sh.den → Option (outsDen o)} {body : sh.den → Option (sh.den ⊕ outsDen o)} (hrun : run = loopOf body)
    (hb : ∀ p, round P C M pin n c h sh o p = body p) : LoopRec.OK P C M pin n ⟨c, h, sh, o, run⟩ := fun p r hr => by
  have : round P C M pin n c h sh o = body := funext hb
  simp only [hrun, loopOf] at hr
  exact ⟨FUEL, by rw [this]; exact hr⟩

end

/-! What is known, in lists. -/
def lookX : List (FuncId × Orc) → FuncId → List AV → Option Orc
  | [], _, _ => none
  | (g, o) :: r, f, args => cond (Nat.beq g f && fitsFn o.args args) (some o) (lookX r f args)

/-- Functions that are known, and whether they leave all as it is. -/
def lookM : List (FuncId × Orc) → FuncId → Option Bool
  | [], _ => none
  | (g, o) :: r, f => cond (Nat.beq g f) (some ((match o.blks with
    | [] => true
    | _ => false) && (match lookM r f with
    | some b => b
    | none => true))) (lookM r f)

def AllX (P : Program) : List (FuncId × Orc) → Prop
  | [] => True
  | (g, o) :: r => o.OK P g ∧ AllX P r

theorem lookX_ok {P : Program} : ∀ {l : List (FuncId × Orc)}, AllX P l → ∀ f args o, lookX l f args = some o → o.OK P f
  | [], _, f, args, o, h => by cases h
  | (g, o') :: r, h, f, args, o, ho => by
    simp only [lookX] at ho
    cases hb : Nat.beq g f && fitsFn o'.args args with
    | true =>
      simp only [hb, cond_true, Option.some.injEq] at ho
      subst ho
      simp only [Bool.and_eq_true] at hb
      rw [← Nat.eq_of_beq_eq_true hb.1]
      exact h.1
    | false =>
      simp only [hb, cond_false] at ho
      exact lookX_ok h.2 f args o ho

theorem lookM_ok : ∀ {l : List (FuncId × Orc)} {f : FuncId} {args : List AV} {o : Orc}, lookX l f args = some o → ∃ b, lookM l f = some b ∧ (b = true → o.blks = [])
  | [], f, args, o, h => by cases h
  | (g, o') :: r, f, args, o, h => by
    simp only [lookX] at h
    simp only [lookM]
    cases hg : Nat.beq g f with
    | false =>
      simp only [hg, Bool.false_and, cond_false] at h ⊢
      exact lookM_ok h
    | true =>
      refine ⟨_, rfl, fun hb => ?_⟩
      simp only [Bool.and_eq_true] at hb
      cases hf : fitsFn o'.args args with
      | true =>
        simp only [hg, hf, Bool.and_self, cond_true, Option.some.injEq] at h
        subst h
        cases hbl : o'.blks with
        | nil => rfl
        | cons _ _ => rw [hbl] at hb; simp at hb
      | false =>
        simp only [hg, hf, Bool.and_false, cond_false] at h
        obtain ⟨b, h1, h2⟩ := lookM_ok h
        rw [h1] at hb
        exact h2 hb.2

def lookY : List (FuncId × (List AV → Option AV)) → FuncId → Option (List AV → Option AV)
  | [], _ => none
  | (g, o) :: r, f => cond (Nat.beq g f) (some o) (lookY r f)

def AllY (P : Program) : List (FuncId × (List AV → Option AV)) → Prop
  | [] => True
  | (g, o) :: r => YOK P g o ∧ AllY P r

theorem lookY_ok {P : Program} : ∀ {l : List (FuncId × (List AV → Option AV))}, AllY P l → ∀ f o, lookY l f = some o → YOK P f o
  | [], _, f, o, h => by cases h
  | (g, o') :: r, h, f, o, ho => by
    simp only [lookY] at ho
    cases hb : Nat.beq g f with
    | true =>
      simp only [hb, cond_true, Option.some.injEq] at ho
      subst ho
      rw [← Nat.eq_of_beq_eq_true hb]
      exact h.1
    | false =>
      simp only [hb, cond_false] at ho
      exact lookY_ok h.2 f o ho

theorem lookY_mem : ∀ {l : List (FuncId × (List AV → Option AV))} {f : FuncId} {o}, lookY l f = some o → f ∈ l.map (·.1)
  | [], f, o, h => by cases h
  | (g, o') :: r, f, o, ho => by
    simp only [lookY] at ho
    cases hb : Nat.beq g f with
    | true => rw [Nat.eq_of_beq_eq_true hb]; simp
    | false =>
      simp only [hb, cond_false] at ho
      exact List.mem_cons_of_mem _ (lookY_mem ho)

def lookZ : List (FuncId × Deed) → FuncId → Option Deed
  | [], _ => none
  | (g, o) :: r, f => cond (Nat.beq g f) (some o) (lookZ r f)

def AllZ (P : Program) : List (FuncId × Deed) → Prop
  | [] => True
  | (g, o) :: r => ZOK P g o ∧ AllZ P r

theorem lookZ_ok {P : Program} : ∀ {l : List (FuncId × Deed)}, AllZ P l → ∀ f o, lookZ l f = some o → ZOK P f o ∧ f ∈ l.map (·.1)
  | [], _, f, o, h => by cases h
  | (g, o') :: r, h, f, o, ho => by
    simp only [lookZ] at ho
    cases hb : Nat.beq g f with
    | true =>
      simp only [hb, cond_true, Option.some.injEq] at ho
      subst ho
      rw [← Nat.eq_of_beq_eq_true hb]
      exact ⟨h.1, by simp⟩
    | false =>
      simp only [hb, cond_false] at ho
      exact ⟨(lookZ_ok h.2 f o ho).1, List.mem_cons_of_mem _ (lookZ_ok h.2 f o ho).2⟩

def AllI (P : Program) : List FuncId → Prop
  | [] => True
  | g :: r => Enters P g ∧ AllI P r

theorem inL_ok {P : Program} : ∀ {l : List FuncId}, AllI P l → ∀ f, hasN l f = true → Enters P f := by
  intro l
  induction l with
  | nil => intro _ f h; cases h
  | cons g r ih =>
    intro h f hf
    have hm := hasN_mem.1 hf
    rcases List.mem_cons.1 hm with rfl | hm
    · exact h.1
    · exact ih h.2 f (hasN_mem.2 hm)

def isNn {β : Type} : Option β → Bool
  | none => true
  | some _ => false

theorem isNn_eq {β : Type} {x : Option β} (h : isNn x = true) : x = none := by
  cases x with
  | none => rfl
  | some _ => cases h

/-- No number is in two of the lists. -/
def apartL (X : List (FuncId × Orc)) (Y : List (FuncId × (List AV → Option AV))) (Z : List (FuncId × Deed)) (I : List FuncId) : Bool :=
  (Y.all fun y => isNn (lookM X y.1)) && (Z.all fun z => isNn (lookM X z.1) && isNn (lookY Y z.1)) && (I.all fun i => isNn (lookM X i) && isNn (lookY Y i))

def bodyOf (fn : Func) : Code :=
  match fn.body with
  | some c => c
  | none => .skip

/-- A part of a piece of code. -/
def subc : Code → List Bool → Code
  | .seq a b, x :: r => subc (cond x b a) r
  | .cond _ a b, x :: r => subc (cond x b a) r
  | .block _ c, _ :: r => subc c r
  | .scope c, _ :: r => subc c r
  | .loop c, _ :: r => subc c r
  | c, _ => c

def AllL (P : Program) (C : Calling) (M : FuncId → Bool) (pin n : Nat) : List LoopRec → Prop
  | [] => True
  | l :: r => l.OK P C M pin n ∧ AllL P C M pin n r

theorem AllL.mem {P : Program} {C : Calling} {M : FuncId → Bool} {pin n : Nat} : ∀ {l : List LoopRec}, AllL P C M pin n l → ∀ x ∈ l, x.OK P C M pin n
  | _ :: _, h, x, hx => by
    rcases List.mem_cons.1 hx with rfl | hx
    · exact h.1
    · exact AllL.mem h.2 x hx

/-- One function, from what is known of those that it calls. -/
theorem ok_of {P : Program} (hm : P.follows .mixedOrders = true) {X : List (FuncId × Orc)} {Y : List (FuncId × (List AV → Option AV))} {Z : List (FuncId × Deed)} {I : List FuncId} {d : Nat} (hX : AllX P X) (hY : AllY P Y) (hZ : AllZ P Z) (hI : AllI P I) (hap : apartL X Y Z I = true) {f : FuncId} {fn : Func} (hf : P.funcs[f]? = some fn) (hen : Enters P f)
    {c : Code} (hc : fn.body = some c) {h : HT} {o : Orc} (hfit : o.fits = true) {ls : List LoopRec} (hls : loopsIn c (strip h) = ls) (hl : AllL P (callX P (lookX X) (lookM X) (lookY Y) (lookZ Z) (hasN I) d) (mild (lookM X) (lookY Y)) o.blks.length fn.ntmps ls)
    (hrun : ∀ p, evTop P (callX P (lookX X) (lookM X) (lookY Y) (lookZ Z) (hasN I) d) (mild (lookM X) (lookY Y)) fn h o p = o.run p) : o.OK P f := by
  simp only [apartL, Bool.and_eq_true, List.all_eq_true] at hap
  obtain ⟨⟨a1, a2⟩, a3⟩ := hap
  exact evTop_ok hm (callX_ok hm (lookX_ok hX) (fun f args o h => lookM_ok h) (fun f b _ hb => lookY_ok hY f b hb) (fun f g h => by
      obtain ⟨y, hy, rfl⟩ := List.mem_map.1 (lookY_mem h)
      exact isNn_eq (a1 y hy)) (fun f z h => by
      obtain ⟨h1, h2⟩ := lookZ_ok hZ f z h
      obtain ⟨y, hy, rfl⟩ := List.mem_map.1 h2
      exact ⟨h1, isNn_eq (a2 y hy).1, isNn_eq (a2 y hy).2⟩) (fun f h => ⟨inL_ok hI f h, isNn_eq (a3 f (hasN_mem.1 h)).1, isNn_eq (a3 f (hasN_mem.1 h)).2⟩) d) hf hen hfit (fun c' hc' x hx => by
    rw [hc] at hc'
    cases hc'
    rw [hls] at hx
    exact hl.mem x hx) fun p r h => (hrun p).trans h

end Go.Ev
