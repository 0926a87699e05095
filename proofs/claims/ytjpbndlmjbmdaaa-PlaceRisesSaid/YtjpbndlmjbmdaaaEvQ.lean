/- Code. -/
import Derived.Test.YtjpbndlmjbmdaaaEvP
import Derived.Scope
namespace Go.Ev
open Go

def exOf : Ex → Exit
  | .normal => .normal
  | .exit id => .exit id
  | .ret => .ret

def isLeaf : HT → Bool
  | .leaf => true
  | _ => false

/-- Behind a piece of code. -/
structure CP (lf : Bool) {T : Tb} (F : Frm T) (pin : Nat) (μ : Nat → Option Nat) (S : St) (w : World) (a : Act) (μ' : Nat → Option Nat) (S' : St) (w' : World) (a' : Act) : Prop where
  chg : Chg (Trk μ S.H) w w'
  new : ∀ g, Trk μ' S'.H g → Trk μ S.H g ∨ w.heap.size ≤ g
  pinned : ∀ j, j < pin → Pin (S'.H j) (S.H j) (μ' j) (μ j)
  le : pin ≤ S'.nx
  rg : Rg F μ' [] S' a' w'
  size : a'.tmps.size = a.tmps.size
  defers : a'.defers = a.defers
  pl : lf = true → ∃ kl, S'.kl = S.kl ++ kl ∧ Pl F μ S.H S.nx w kl μ' S'.H S'.nx w'

section
variable {P : Program} {F : Frm (tabsOf P)} {μ μ' μ'' : Nat → Option Nat} {S S' S'' : St} {w w' w'' : World} {a a' a'' : Act} {α : Type} {r : α} {M : FuncId → Bool} {pin : Nat} {lf lf' : Bool}

theorem CP.refl (hr : Rg F μ [] S a w) (hp : pin ≤ S.nx) : CP lf F pin μ S w a μ S w a :=
  ⟨Chg.refl w, fun _ h => .inl h, fun _ _ => Pin.refl _ _, hp, hr, rfl, rfl, fun _ => ⟨[], by simp, Pl.refl hr.hp⟩⟩

theorem CP.trans (h : CP lf F pin μ S w a μ' S' w' a') (h' : CP lf F pin μ' S' w' a' μ'' S'' w'' a'') : CP lf F pin μ S w a μ'' S'' w'' a'' where
  chg := h.chg.trans h'.chg fun g hg ht => (h.new g ht).resolve_right (by omega)
  new := fun g hg => by
    rcases h'.new g hg with h1 | h1
    · exact h.new g h1
    · exact .inr (Nat.le_trans h.chg.size h1)
  pinned := fun j hj => (h'.pinned j hj).trans (h.pinned j hj)
  le := h'.le
  rg := h'.rg
  size := h'.size.trans h.size
  defers := h'.defers.trans h.defers
  pl := fun hl => by
    obtain ⟨kl, k1, k2⟩ := h.pl hl
    obtain ⟨kl', k3, k4⟩ := h'.pl hl
    exact ⟨kl ++ kl', by rw [k3, k1, List.append_assoc], k2.trans k4⟩

theorem CP.weak (h : CP lf F pin μ S w a μ' S' w' a') (hl : lf' = true → lf = true) : CP lf' F pin μ S w a μ' S' w' a' :=
  ⟨h.chg, h.new, h.pinned, h.le, h.rg, h.size, h.defers, fun hh => h.pl (hl hh)⟩

theorem CP.shaped (hs : Shaped F pin μ S w μ' S') (hr : Rg F μ' [] S' a w) : CP false F pin μ S w a μ' S' w a :=
  ⟨Chg.refl w, fun g h => .inl (hs.trk g h), hs.pinned, hs.le, hr, rfl, rfl, fun h => by cases h⟩

theorem CP.of_post {done' : List Nat} (hpin : pin ≤ S.nx) (h : Post F μ S w a done' S' w' a') : ∃ μ', CP true F pin μ S w a μ' ⟨fun t => noGd (S'.E t), S'.H, S'.nx, S'.kl⟩ w' a' := by
  obtain ⟨⟨μ', kl, h1, h2, h3⟩, h4, h5⟩ := h
  refine ⟨μ', h2.chg, h2.new, fun j hj => h2.pin j (Nat.lt_of_lt_of_le hj hpin), Nat.le_trans hpin h2.mono, ⟨h3.hp, fun t => ?_, fun t j b x hE => absurd hE (noGd_ne _ j b x)⟩, h4, h5, fun _ => ⟨kl, h1, h2⟩⟩
  have he := h3.e t
  show (match noGd (S'.E t) with
    | .gd j b x => _
    | x => RelV w' _ _ _ x (a'.tmps.getD t undef))
  cases hE : S'.E t <;> simp only [hE] at he <;> first | exact he | simp [noGd, RelV]

/-- What evaluation says of code, made good. -/
def EvOK (P : Program) (C : Calling) (M : FuncId → Bool) (pin n : Nat) (c : Code) (h : HT) : Prop :=
  ∀ (S : St) (α : Type) (K : Ex → St → Option α) (r : α), ev P C M pin n c h S K = some r → ∀ (F : Frm (tabsOf P)) μ w a, n = a.tmps.size → pin ≤ S.nx → Rg F μ [] S a w →
    c.wp P (fun e a' w' => ∃ ex S' μ', e = exOf ex ∧ K ex S' = some r ∧ CP (isLeaf h) F pin μ S w a μ' S' w' a') a w

def JOK (P : Program) (C : Calling) (M : FuncId → Bool) (pin n : Nat) (c : Code) (h : HT) : Prop :=
  ∀ (S : St) (α : Type) (K : Ex → St → Option α) (r : α), joined pin h (fun h => ev P C M pin n c h S) K = some r → ∀ (F : Frm (tabsOf P)) μ w a, n = a.tmps.size → pin ≤ S.nx → Rg F μ [] S a w →
    c.wp P (fun e a' w' => ∃ ex S' μ', e = exOf ex ∧ K ex S' = some r ∧ CP (isLeaf h) F pin μ S w a μ' S' w' a') a w

theorem eqEx_eq : ∀ {x y : Ex}, eqEx x y = true → x = y
  | .normal, .normal, _ => rfl
  | .ret, .ret, _ => rfl
  | .exit _, .exit _, h => by rw [Nat.eq_of_beq_eq_true h]
  | .normal, .ret, h => by cases h
  | .normal, .exit _, h => by cases h
  | .ret, .normal, h => by cases h
  | .ret, .exit _, h => by cases h
  | .exit _, .normal, h => by cases h
  | .exit _, .ret, h => by cases h

theorem packOuts_ok {ex : Ex} (hr : Rg F μ [] S a w) : ∀ (o : Outs) {K : outsDen o → Option α}, packOuts pin S ex o K = some r →
    ∃ (q : outsDen o) (S' : St) (μ' : Nat → Option Nat), K q = some r ∧ (∀ (β : Type) (K' : Ex → St → Option β), unOuts o q K' = K' ex S') ∧ Shaped F pin μ S w μ' S' ∧ Rg F μ' [] S' a w
  | [], K, h => by simp [packOuts] at h
  | [(e, s)], K, h => by
    simp only [packOuts] at h
    obtain ⟨h1, h2⟩ := cond_some h
    obtain ⟨p, μ', h3, h4, h5⟩ := pack_ok hr h2
    exact ⟨p, _, μ', h3, fun β K' => by rw [← eqEx_eq h1]; rfl, h4, h5⟩
  | (e, s) :: y :: o, K, h => by
    simp only [packOuts] at h
    cases he : eqEx e ex with
    | true =>
      simp only [he, cond_true] at h
      obtain ⟨p, μ', h3, h4, h5⟩ := pack_ok hr h
      exact ⟨.inl p, _, μ', h3, fun β K' => by rw [← eqEx_eq he]; rfl, h4, h5⟩
    | false =>
      simp only [he, cond_false] at h
      obtain ⟨q, S', μ', h3, h4, h5, h6⟩ := packOuts_ok hr (y :: o) h
      exact ⟨.inr q, S', μ', h3, fun β K' => h4 β K', h5, h6⟩

def strip : HT → HT
  | .join _ h => h
  | h => h

theorem joined_ok {C : Calling} {n : Nat} {c : Code} {h : HT} (hok : EvOK P C M pin n c (strip h)) : JOK P C M pin n c h := by
  intro S α K r he F μ w a hn hp hr
  cases h with
  | join o h =>
    simp only [joined] at he
    cases hq : (ev P C M pin n c h S fun ex S => packOuts pin S ex o some) with
    | none => simp [hq] at he
    | some q =>
      simp only [hq, Option.bind_some] at he
      refine wp_mono (hok S _ _ _ hq F μ w a hn hp hr) fun e a' w' ⟨ex, S', μ', h1, h2, h3⟩ => ?_
      obtain ⟨q', S2, μ2, h4, h5, h6, h7⟩ := packOuts_ok h3.rg o h2
      cases h4
      exact ⟨ex, S2, μ2, h1, by rw [← h5 α K]; exact he, (h3.weak (fun h => by cases h)).trans (CP.shaped h6 h7)⟩
  | _ => exact hok S α K r he F μ w a hn hp hr

/-- A loop, told of. -/
structure LoopRec where
  c : Code
  h : HT
  sh : Shape
  o : Outs
  run : sh.den → Option (outsDen o)

def LoopRec.OK (P : Program) (C : Calling) (M : FuncId → Bool) (pin n : Nat) (l : LoopRec) : Prop :=
  ∀ p r, l.run p = some r → ∃ m, iter (round P C M pin n l.c l.h l.sh l.o) m p = some r

/-- The loops of a piece of code. -/
def loopsIn : Code → HT → List LoopRec
  | .seq a b, h => loopsIn a (strip h.fst) ++ loopsIn b (strip h.snd)
  | .cond _ a b, h => loopsIn a (strip h.fst) ++ loopsIn b (strip h.snd)
  | .block _ c, h => loopsIn c (strip h.fst)
  | .scope c, h => loopsIn c (strip h.fst)
  | .loop c, .loop sh o run h => ⟨c, h, sh, o, run⟩ :: loopsIn c (strip h)
  | _, _ => []

theorem wp_loop_n {c : Code} {Q : Exit → Act → World → Prop} (I : Nat → Act → World → Prop) (h0 : ∀ a w, ¬ I 0 a w)
    (round : ∀ m a w, I (m + 1) a w → c.wp P (Exit.then (fun a' w' => I m a' w') Q) a w) (m : Nat) (h : I m a w) : (Code.loop c).wp P Q a w := by
  intro b k cs
  have key : ∀ m a w, I m a w → ∃ e a' w', Q e a' w' ∧ Arrives P (lone (b.at a (.code c :: .inLoop c :: k)) cs w) b k cs e a' w' := by
    intro m
    induction m with
    | zero => exact fun a w h => absurd h (h0 a w)
    | succ m ih =>
      intro a w hI
      obtain ⟨e, a₁, w₁, hq, harr⟩ := round m a w hI b (.inLoop c :: k) cs
      cases e with
      | normal =>
        obtain ⟨e₂, a₂, w₂, hq₂, harr₂⟩ := ih a₁ w₁ hq
        exact ⟨e₂, a₂, w₂, hq₂, .of_steps (Steps.trans harr (.one step_inLoop)) harr₂⟩
      | exit id => exact ⟨_, a₁, w₁, hq, .pass (x := .inLoop c) rfl (fun _ _ => .inl (by simp)) harr⟩
      | goto l => exact ⟨_, a₁, w₁, hq, .pass (x := .inLoop c) rfl (fun _ _ => .inl (by simp)) harr⟩
      | ret => exact ⟨_, a₁, w₁, hq, .pass (x := .inLoop c) rfl (fun _ _ => .inl (by simp)) harr⟩
      | panic ch => exact ⟨_, a₁, w₁, hq, .pass (x := .inLoop c) rfl (fun _ _ => .inl (by simp)) harr⟩
      | outgrown => exact ⟨_, a₁, w₁, hq, .pass (x := .inLoop c) rfl (fun _ _ => .inl (by simp)) harr⟩
  obtain ⟨e, a', w', hq, harr⟩ := key m a w h
  exact ⟨e, a', w', hq, .of_steps (.one step_loop) harr⟩

theorem leaf_fst {h : HT} (hl : isLeaf h = true) : isLeaf h.fst = true := by cases h <;> first | rfl | cases hl
theorem leaf_snd {h : HT} (hl : isLeaf h = true) : isLeaf h.snd = true := by cases h <;> first | rfl | cases hl

theorem ev_ok (hm : P.follows .mixedOrders = true) {C : Calling} (hC : CallOK P C M) {n : Nat} : ∀ (c : Code) (h : HT), (∀ x ∈ loopsIn c h, x.OK P C M pin n) → EvOK P C M pin n c h
  | .skip, h, _ => by
    intro S α K r he F μ w a hn hp hr
    simp only [ev] at he
    exact wp_skip ⟨.normal, S, μ, rfl, he, CP.refl hr hp⟩
  | .exit id, h, _ => by
    intro S α K r he F μ w a hn hp hr
    simp only [ev] at he
    exact wp_exit ⟨.exit id, S, μ, rfl, he, CP.refl hr hp⟩
  | .ret, h, _ => by
    intro S α K r he F μ w a hn hp hr
    simp only [ev] at he
    exact wp_ret ⟨.ret, S, μ, rfl, he, CP.refl hr hp⟩
  | .region id ops draw, h, _ => by
    intro S α K r he F μ w a hn hp hr
    simp only [ev] at he
    cases hts : turnsOf P M ops draw with
    | none => simp [hts] at he
    | some ts =>
      simp only [hts] at he
      rw [hn] at he
      refine evRegion_ok hm hC hr hts he fun S' w' a' done' hK hpost => ?_
      obtain ⟨μ', hcp⟩ := CP.of_post hp hpost
      exact ⟨.normal, _, μ', rfl, hK, hcp.weak fun _ => rfl⟩
  | .seq x y, h, hl => by
    intro S α K r he F μ w a hn hp hr
    simp only [ev] at he
    have hx := joined_ok (ev_ok hm hC x (strip h.fst) fun z hz => hl z (by simp [loopsIn, hz]))
    have hy := joined_ok (ev_ok hm hC y (strip h.snd) fun z hz => hl z (by simp [loopsIn, hz]))
    refine wp_seq (wp_mono (hx S α _ r he F μ w a hn hp hr) fun e a' w' ⟨ex, S', μ', h1, h2, h3⟩ => ?_)
    subst h1
    have h3' : CP (isLeaf h) F pin μ S w a μ' S' w' a' := h3.weak leaf_fst
    cases ex with
    | normal =>
      refine wp_mono (hy S' α K r h2 F μ' w' a' (hn.trans h3.size.symm) h3.le h3.rg) fun e2 a2 w2 ⟨ex2, S2, μ2, g1, g2, g3⟩ => ?_
      exact ⟨ex2, S2, μ2, g1, g2, h3'.trans (g3.weak leaf_snd)⟩
    | exit id => exact ⟨.exit id, S', μ', rfl, h2, h3'⟩
    | ret => exact ⟨.ret, S', μ', rfl, h2, h3'⟩
  | .cond c x y, h, hl => by
    intro S α K r he F μ w a hn hp hr
    simp only [ev] at he
    have hx := joined_ok (ev_ok hm hC x (strip h.fst) fun z hz => hl z (by simp [loopsIn, hz]))
    have hy := joined_ok (ev_ok hm hC y (strip h.snd) fun z hz => hl z (by simp [loopsIn, hz]))
    have hX : joined pin h.fst (fun h => ev P C M pin n x h S) K = some r → x.wp P (fun e a' w' => ∃ ex S' μ', e = exOf ex ∧ K ex S' = some r ∧ CP (isLeaf h) F pin μ S w a μ' S' w' a') a w := fun he =>
      wp_mono (hx S α K r he F μ w a hn hp hr) fun e a' w' ⟨ex, S', μ', h1, h2, h3⟩ => ⟨ex, S', μ', h1, h2, h3.weak leaf_fst⟩
    have hY : joined pin h.snd (fun h => ev P C M pin n y h S) K = some r → y.wp P (fun e a' w' => ∃ ex S' μ', e = exOf ex ∧ K ex S' = some r ∧ CP (isLeaf h) F pin μ S w a μ' S' w' a') a w := fun he =>
      wp_mono (hy S α K r he F μ w a hn hp hr) fun e a' w' ⟨ex, S', μ', h1, h2, h3⟩ => ⟨ex, S', μ', h1, h2, h3.weak leaf_snd⟩
    have hc := (opd_ok hr.e c).rel
    cases hcv : opd S.E c <;> simp only [hcv, reduceCtorEq] at he hc
    case b q =>
      simp only [RelV] at hc
      cases q with
      | true => exact wp_cond_true hc (hX he)
      | false => exact wp_cond_false hc (hY he)
    case kb q =>
      simp only [RelV] at hc
      cases q with
      | true => exact wp_cond_true hc (hX he)
      | false => exact wp_cond_false hc (hY he)
  | .block id c, h, hl => by
    intro S α K r he F μ w a hn hp hr
    simp only [ev] at he
    have hx := joined_ok (ev_ok hm hC c (strip h.fst) fun z hz => hl z (by simp [loopsIn, hz]))
    refine wp_block (wp_mono (hx S α _ r he F μ w a hn hp hr) fun e a' w' ⟨ex, S', μ', h1, h2, h3⟩ => ?_)
    subst h1
    have h3' : CP (isLeaf h) F pin μ S w a μ' S' w' a' := h3.weak leaf_fst
    cases ex with
    | normal => exact ⟨.normal, S', μ', rfl, h2, h3'⟩
    | ret => exact ⟨.ret, S', μ', rfl, h2, h3'⟩
    | exit id' =>
      simp only [exOf, Exit.inBlock]
      by_cases hid : id' = id
      · subst hid
        simp only [Nat.beq_refl, cond_true] at h2
        rw [if_pos rfl]
        exact ⟨.normal, S', μ', rfl, h2, h3'⟩
      · simp only [beq_ne hid, cond_false] at h2
        rw [if_neg hid]
        exact ⟨.exit id', S', μ', rfl, h2, h3'⟩
  | .loop c, h, hl => by
    intro S α K r he F μ w a hn hp hr
    cases h with
    | loop sh o run h =>
      simp only [ev] at he
      have hx := joined_ok (ev_ok hm hC c (strip h) fun z hz => hl z (by simp [loopsIn, hz]))
      have hlo := hl ⟨c, h, sh, o, run⟩ (by simp [loopsIn])
      obtain ⟨p, μ1, h1, h2, h3⟩ := pack_ok hr he
      cases hrun : run p with
      | none => simp [hrun] at h1
      | some q =>
        simp only [hrun, Option.bind_some] at h1
        obtain ⟨m, hm1⟩ := hlo p q hrun
        refine wp_loop_n (fun m a' w' => ∃ p μ', iter (round P C M pin n c h sh o) m p = some q ∧ CP false F pin μ S w a μ' (unpack sh p) w' a') (fun a w ⟨p, _, hi, _⟩ => by simp [iter] at hi) (fun m a' w' ⟨p, μ', hi, hcp⟩ => ?_) m ⟨p, μ1, hm1, CP.shaped h2 h3⟩
        simp only [iter] at hi
        cases hro : round P C M pin n c h sh o p with
        | none => simp [hro] at hi
        | some z =>
          refine wp_mono (hx (unpack sh p) _ _ z hro F μ' w' a' (hn.trans hcp.size.symm) hcp.le hcp.rg) fun e a2 w2 ⟨ex, S2, μ2, g1, g2, g3⟩ => ?_
          subst g1
          have g4 : CP false F pin μ S w a μ2 S2 w2 a2 := hcp.trans (g3.weak fun h => by cases h)
          have out : ∀ {ex}, (packOuts pin S2 ex o fun r => some (Sum.inr r)) = some z → ∃ ex' S' μ', exOf ex = exOf ex' ∧ K ex' S' = some r ∧ CP (isLeaf (.loop sh o run h)) F pin μ S w a μ' S' w2 a2 := fun {ex} hpo => by
            obtain ⟨q', S', μ3, k1, k2, k3, k4⟩ := packOuts_ok g3.rg o hpo
            simp only [Option.some.injEq] at k1
            rw [hro, ← k1] at hi
            simp only [Option.some.injEq] at hi
            subst hi
            exact ⟨ex, S', μ3, rfl, by rw [← k2 α K]; exact h1, g4.trans (CP.shaped k3 k4)⟩
          cases ex with
          | normal =>
            obtain ⟨p', μ3, k1, k2, k3⟩ := pack_ok g3.rg g2
            simp only [Option.some.injEq] at k1
            rw [hro, ← k1] at hi
            exact ⟨p', μ3, hi, g4.trans (CP.shaped k2 k3)⟩
          | exit id => exact out g2
          | ret => exact out g2
    | _ => simp [ev] at he
  | .label _, h, _ => by
    intro S α K r he F μ w a hn hp hr
    simp only [ev] at he
    exact wp_label ⟨.normal, S, μ, rfl, he, CP.refl hr hp⟩
  | .goto _, h, _ => by intro S α K r he; simp [ev] at he
  | .scope c, h, hl => by
    intro S α K r he F μ w a hn hp hr
    simp only [ev] at he
    have hx := joined_ok (ev_ok hm hC c (strip h.fst) fun z hz => hl z (by simp [loopsIn, hz]))
    refine wp_scope_straight (wp_mono (hx S α _ r he F μ w a hn hp hr) fun e a' w' ⟨ex, S', μ', h1, h2, h3⟩ => ?_)
    subst h1
    have h3' : CP (isLeaf h) F pin μ S w a μ' S' w' a' := h3.weak leaf_fst
    cases ex with
    | normal => exact ⟨.normal, S', μ', rfl, h2, h3'⟩
    | ret => exact ⟨.ret, S', μ', rfl, h2, h3'⟩
    | exit id' => exact ⟨.exit id', S', μ', rfl, h2, h3'⟩
  | .rangeFunc _ _ _ _, h, _ => by intro S α K r he; simp [ev] at he
  | .refuse _, h, _ => by intro S α K r he; simp [ev] at he

end
end Go.Ev
