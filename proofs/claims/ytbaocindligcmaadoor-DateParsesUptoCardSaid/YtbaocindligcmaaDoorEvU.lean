/- Functions that call, and what is known of them. -/
import Derived.Test.YtbaocindligcmaaDoorEvT
namespace Go.Ev
open Go
section
variable {P : Program} {F : Frm (tabsOf P)} {μ : Nat → Option Nat} {w w' : World} {α : Type} {r : α} {M : FuncId → Bool}

theorem strip_leaf : strip HT.leaf = .leaf := rfl

theorem loopsIn_leaf : ∀ (c : Code), loopsIn c .leaf = []
  | .seq a b => by simp [loopsIn, HT.fst, HT.snd, strip_leaf, loopsIn_leaf a, loopsIn_leaf b]
  | .cond _ a b => by simp [loopsIn, HT.fst, HT.snd, strip_leaf, loopsIn_leaf a, loopsIn_leaf b]
  | .block _ a => by simp [loopsIn, HT.fst, strip_leaf, loopsIn_leaf a]
  | .loop _ => rfl
  | .skip => rfl
  | .exit _ => rfl
  | .ret => rfl
  | .region _ _ _ => rfl
  | .label _ => rfl
  | .goto _ => rfl
  | .scope _ => rfl
  | .rangeFunc _ _ _ _ => rfl
  | .refuse _ => rfl

/-- What the model itself answers, told rightly. -/
def NvOK (P : Program) (f : FuncId) (g : List AV → Option AV) : Prop :=
  ∀ args v, g args = some v → ∀ w N μ H vals, RelVs w N μ H args vals → ∃ val, RelV w N μ H v val ∧ ∀ w1, (callFunc f vals.toArray).run P w1 = .ok (.value val) w1

/-- A function that only yields a value, told by its contract; it may read the tables. -/
def PvOK (P : Program) (f : FuncId) (g : List AV → Option AV) : Prop :=
  Enters P f ∧ ∀ args v, g args = some v → ∀ w N μ H vals, (tabsOf P).tab w → RelVs w N μ H args vals →
    Calls P f vals.toArray w fun e w' => ∃ val, e = .returned val ∧ (∀ w1 N1 μ1 H1, RelV w1 N1 μ1 H1 v val) ∧ RowKit.Below w.heap.size w w'

def YOK (P : Program) (f : FuncId) (g : List AV → Option AV) : Prop := NvOK P f g ∨ PvOK P f g

theorem callX_ok (hm : P.follows .mixedOrders = true) {X : FuncId → Option Orc} {Y : FuncId → Option (List AV → Option AV)} {I : FuncId → Bool} (hX : ∀ f o, X f = some o → o.OK P f) (hY : ∀ f g, Y f = some g → YOK P f g) (hI : ∀ f, I f = true → Enters P f) : ∀ d, CallOK P (callX P X Y I d) (mild X Y)
  | 0 => fun f args S α K r h => by cases h
  | d + 1 => fun f args S α K r h F μ w vals hp hargs => by
    simp only [callX] at h
    cases hXf : X f with
    | some o =>
      simp only [hXf] at h
      have ho := hX f o hXf
      refine .inl ⟨fun w1 => ho.enters _ _, (o.call_ok ho h hp hargs).mono fun e w' ⟨v, S', μ', kl, val, h1, h2, h3, h4, h5, h6, h7, h8⟩ => ⟨v, S', μ', kl, val, h1, h2, h3, h4, h5, h6, h7, fun hM => h8 ?_⟩⟩
      simp only [mild, hXf] at hM
      cases hb : o.blks with
      | nil => rfl
      | cons _ _ => simp [hb] at hM
    | none =>
      simp only [hXf] at h
      cases hYf : Y f with
      | some g =>
        simp only [hYf] at h
        cases hg : g args with
        | none => simp [hg] at h
        | some v =>
          simp only [hg] at h
          rcases hY f g hYf with hY | ⟨hen, hpv⟩
          · obtain ⟨val, h1, h2⟩ := hY args v hg w _ _ _ vals hargs
            exact .inr ⟨v, val, h, h1, h2⟩
          · refine .inl ⟨fun w1 => hen _ _, (hpv args v hg w _ _ _ vals hp.tab hargs).mono fun e w' ⟨val, h1, h2, bel⟩ => ?_⟩
            exact ⟨v, S, μ, [], val, h1, h, rfl, by simp, hp.keep ⟨bel.size, fun g hg _ => bel.block g hg⟩ fun g ⟨b, hb, hg⟩ => bel.block g (hp.lt b g hb hg),
              Pl.keep hp ⟨⟨bel.size, fun g hg _ => bel.block g hg⟩, bel.os, bel.tape, bel.output⟩, h2 _ _ _ _, fun _ => ⟨bel.size, fun g hg _ => bel.block g hg⟩⟩
      | none =>
        simp only [hYf] at h
        cases hIf : I f with
        | false => simp [hIf] at h
        | true =>
          cases hfn : P.funcs[f]? with
          | none => simp [hIf, hfn] at h
          | some fn =>
            simp only [hIf, hfn] at h
            refine .inl ⟨fun w1 => hI f hIf _ _, ?_⟩
            refine (evFn_ok hm (callX_ok hm hX hY hI d) hfn (h := .leaf) (fun c _ x hx => by rw [strip_leaf, loopsIn_leaf] at hx; cases hx) h hp hargs (Nat.zero_le _)).mono ?_
            intro e w' ⟨v, S', μ', a, a', val, h1, h2, h3, h4⟩
            obtain ⟨kl, k1, k2⟩ := h4.pl rfl
            have k3 : S'.kl = kl := by simpa [inSt] using k1
            refine ⟨v, _, μ', kl, val, h1, h2, by simp only; rw [k3], by simp only; rw [k3], h4.rg.hp, k2, h3, fun hM => ?_⟩
            simp [mild, hXf, hYf] at hM

theorem findB_id {n j : Nat} (h : j < n) : findB ((List.range n).map fun j => (j, some j)) j = some (some j) := by
  have key : ∀ l : List Nat, j ∈ l → findB (l.map fun j => (j, some j)) j = some (some j) := by
    intro l
    induction l with
    | nil => intro h; cases h
    | cons x l ih =>
      intro hm
      simp only [List.map_cons, findB]
      cases hx : Nat.beq x j with
      | true => rw [Nat.eq_of_beq_eq_true hx]; rfl
      | false =>
        rcases List.mem_cons.1 hm with rfl | hm
        · simp at hx
        · exact ih hm
  exact key _ (List.mem_range.2 h)

/-- What is told of a function holds, if evaluation says the same. -/
theorem evTop_ok (hm : P.follows .mixedOrders = true) {C : Calling} (hC : CallOK P C M) {f : FuncId} {fn : Func} (hf : P.funcs[f]? = some fn) (hen : Enters P f) {h : HT} {o : Orc} (hfit : o.fits = true)
    (hl : ∀ c, fn.body = some c → ∀ x ∈ loopsIn c (strip h), x.OK P C M o.blks.length fn.ntmps) (hrun : ∀ p r, o.run p = some r → evTop P C M fn h o p = some r) : o.OK P f := by
  refine ⟨hen, hfit, fun p r hr F μ w vals hp hargs => ?_⟩
  have he := hrun p r hr
  unfold evTop at he
  refine (evFn_ok hm hC hf hl he hp hargs (Nat.le_refl _)).mono fun e w' ⟨v, S', μ', a, a', val, h1, h2, h3, h4⟩ => ?_
  have hfits := hfit
  simp only [Orc.fits, Bool.and_eq_true, List.all_eq_true] at hfits
  obtain ⟨⟨⟨⟨⟨fnd, frange⟩, fargs⟩, fout⟩, fblks⟩, foblks⟩ := hfits
  have hp' := h4.rg.hp
  obtain ⟨x, B1, k1, k2, k3⟩ := packV_ok (pin := o.blks.length) (bl := o.oblks) hp' o.out v _ _ val h3 h2
  obtain ⟨y, B, k4, k5, k6, k7, k8, k9⟩ := packBlks_ok (bl := o.oblks) hp' o.oblks k1
  obtain ⟨hB, k10⟩ := cond_some k4
  simp only [Option.some.injEq] at k10
  have hfin : Fin F F μ' o.blks.length S'.H o.oblks B (unBlks o.oblks y) := ⟨hB, k6, k7, fun _ h => .inl h, fun b g _ hl hm => hp'.apart b g hl hm⟩
  have hhp : Hp F (muB μ' B) (unBlks o.oblks y) (o.blks.length + o.oblks.length) w' := by
    refine hfin.hp hp' (fun j => k9 F B _ (Ext.refl B) hfin (List.all_eq_true.2 fun x hx => (foblks x hx).1.2) j) (fun j hj => ?_) (fun _ b g _ _ hl hm => hp'.apart b g hl hm) hp'.flt
    by_cases hd : unBlks o.oblks y j = .dead
    · exact hd
    · obtain ⟨x, hx, rfl⟩ := k8 j hd
      have := Nat.le_of_ble_eq_true (foblks x hx).1.1
      omega
  have hv := k3 F B _ k5 hfin fout
  subst k10
  refine ⟨val, muB μ' B, _, h1, hhp, hv, h4.chg, fun g hg => h4.new g (hfin.trk hg), fun j hj cs' hcs => ?_⟩
  obtain ⟨⟨cs, g1⟩, g2⟩ := hfin.pinned j hj cs' hcs
  obtain ⟨g3, g4⟩ := h4.pinned j hj cs g1
  exact ⟨g3, g2.trans g4⟩

def noF {T : Tb} : Frm T := ⟨fun _ => False⟩

/-- A statement's function. -/
theorem told {f : FuncId} {A : VSh} {run : A.den × blksDen [] → Option (VSh.den .b × blksDen [])} (ho : Orc.OK P f ⟨A, [], .b, [], run⟩) {p : A.den} (hrun : run (p, ()) = some (true, ())) {vals : List Value} (ht : (tabsOf P).tab w)
    (hargs : RelVs w (Not (noF : Frm (tabsOf P)) (fun _ => none) fun _ => .dead) (fun _ => none) (fun _ => .dead) (unL A p) vals) :
    Calls P f vals.toArray w fun e w' => e = .returned (.bool true) ∧ RowKit.Below w.heap.size w w' := by
  have hp : Hp (noF : Frm (tabsOf P)) (fun _ => none) (unBlks [] ()) 0 w := ⟨fun b => by simp [unBlks, RelB], fun b g h => absurd rfl h, fun b b' g h => absurd rfl h, fun _ _ => rfl, fun b g h => absurd rfl h, fun g h => h.elim, ht, fun b g h => absurd rfl h⟩
  refine (ho.run (p, ()) _ hrun noF (fun _ => none) w vals hp hargs).mono fun e w' ⟨val, μ', nx', h1, h2, h3, h4, _⟩ => ⟨?_, h4.os, h4.tape, h4.output, h4.size, fun k hk => h4.keep k hk fun ⟨j, h, _⟩ => h rfl⟩
  simp only [unV, RelV] at h3
  rw [h1, h3]

/-! Loops. -/
/-- more rounds than any loop ever has -/
def FUEL : Nat := 4611686018427387904

def loopOf {σ τ : Type} (body : σ → Option (σ ⊕ τ)) (p : σ) : Option τ := iter body FUEL p

theorem LoopRec.of {C : Calling} {pin n : Nat} {c : Code} {h : HT} {sh : Shape} {o : Outs} {run : sh.den → Option (outsDen o)} {body : sh.den → Option (sh.den ⊕ outsDen o)} (hrun : run = loopOf body)
    (hb : ∀ p, round P C M pin n c h sh o p = body p) : LoopRec.OK P C M pin n ⟨c, h, sh, o, run⟩ := fun p r hr => by
  have : round P C M pin n c h sh o = body := funext hb
  simp only [hrun, loopOf] at hr
  exact ⟨FUEL, by rw [this]; exact hr⟩

end

/-! What is known, in lists. -/
def lookX : List (FuncId × Orc) → FuncId → Option Orc
  | [], _ => none
  | (g, o) :: r, f => cond (Nat.beq g f) (some o) (lookX r f)

def AllX (P : Program) : List (FuncId × Orc) → Prop
  | [] => True
  | (g, o) :: r => o.OK P g ∧ AllX P r

theorem lookX_ok {P : Program} : ∀ {l : List (FuncId × Orc)}, AllX P l → ∀ f o, lookX l f = some o → o.OK P f
  | [], _, f, o, h => by cases h
  | (g, o') :: r, h, f, o, ho => by
    simp only [lookX] at ho
    cases hb : Nat.beq g f with
    | true =>
      simp only [hb, cond_true, Option.some.injEq] at ho
      subst ho
      rw [← Nat.eq_of_beq_eq_true hb]
      exact h.1
    | false =>
      simp only [hb, cond_false] at ho
      exact lookX_ok h.2 f o ho

def lookY : List (FuncId × (List AV → Option AV)) → FuncId → Option (List AV → Option AV)
  | [], _ => none
  | (g, o) :: r, f => cond (Nat.beq g f) (some o) (lookY r f)

def AllY (P : Program) : List (FuncId × (List AV → Option AV)) → Prop
  | [] => True
  | (g, o) :: r => YOK P g o ∧ AllY P r

theorem lookY_ok {P : Program} : ∀ {l : List (FuncId × (List AV → Option AV))}, AllY P l → ∀ f o, lookY l f = some o → YOK P f o
  | [], _, f, o, h => by cases h
  | (g, o') :: r, h, f, o, ho => by
    simp only [lookY] at ho
    cases hb : Nat.beq g f with
    | true =>
      simp only [hb, cond_true, Option.some.injEq] at ho
      subst ho
      rw [← Nat.eq_of_beq_eq_true hb]
      exact h.1
    | false =>
      simp only [hb, cond_false] at ho
      exact lookY_ok h.2 f o ho

def AllI (P : Program) : List FuncId → Prop
  | [] => True
  | g :: r => Enters P g ∧ AllI P r

theorem inL_ok {P : Program} : ∀ {l : List FuncId}, AllI P l → ∀ f, hasN l f = true → Enters P f := by
  intro l
  induction l with
  | nil => intro _ f h; cases h
  | cons g r ih =>
    intro h f hf
    have hm := hasN_mem.1 hf
    rcases List.mem_cons.1 hm with rfl | hm
    · exact h.1
    · exact ih h.2 f (hasN_mem.2 hm)

def bodyOf (fn : Func) : Code :=
  match fn.body with
  | some c => c
  | none => .skip

/-- A part of a piece of code. -/
def subc : Code → List Bool → Code
  | .seq a b, x :: r => subc (cond x b a) r
  | .cond _ a b, x :: r => subc (cond x b a) r
  | .block _ c, _ :: r => subc c r
  | .loop c, _ :: r => subc c r
  | c, _ => c

def AllL (P : Program) (C : Calling) (M : FuncId → Bool) (pin n : Nat) : List LoopRec → Prop
  | [] => True
  | l :: r => l.OK P C M pin n ∧ AllL P C M pin n r

theorem AllL.mem {P : Program} {C : Calling} {M : FuncId → Bool} {pin n : Nat} : ∀ {l : List LoopRec}, AllL P C M pin n l → ∀ x ∈ l, x.OK P C M pin n
  | _ :: _, h, x, hx => by
    rcases List.mem_cons.1 hx with rfl | hx
    · exact h.1
    · exact AllL.mem h.2 x hx

/-- One function, from what is known of those that it calls. -/
theorem ok_of {P : Program} (hm : P.follows .mixedOrders = true) {X : List (FuncId × Orc)} {Y : List (FuncId × (List AV → Option AV))} {I : List FuncId} {d : Nat} (hX : AllX P X) (hY : AllY P Y) (hI : AllI P I) {f : FuncId} {fn : Func} (hf : P.funcs[f]? = some fn) (hen : Enters P f)
    {c : Code} (hc : fn.body = some c) {h : HT} {o : Orc} (hfit : o.fits = true) {ls : List LoopRec} (hls : loopsIn c (strip h) = ls) (hl : AllL P (callX P (lookX X) (lookY Y) (hasN I) d) (mild (lookX X) (lookY Y)) o.blks.length fn.ntmps ls)
    (hrun : ∀ p, evTop P (callX P (lookX X) (lookY Y) (hasN I) d) (mild (lookX X) (lookY Y)) fn h o p = o.run p) : o.OK P f :=
  evTop_ok hm (callX_ok hm (lookX_ok hX) (lookY_ok hY) (inL_ok hI) d) hf hen hfit (fun c' hc' x hx => by
    rw [hc] at hc'
    cases hc'
    rw [hls] at hx
    exact hl.mem x hx) fun p r h => (hrun p).trans h

end Go.Ev
