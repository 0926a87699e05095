/- Code. -/
import Derived.Test.YtgfecebcaepjfaaGreatDoorEvP
import Derived.Scope
namespace Go.Ev
open Go

def exOf : Ex → Exit
  | .normal => .normal
  | .exit id => .exit id
  | .ret => .ret
  | .pan => .ret

/-- How a piece of code is left, and by which act it is held: where it panics, by one that holds the panic's value. -/
def XR (ex : Ex) (e : Exit) (a' av : Act) : Prop :=
  match ex with
  | .pan => e = .panic [{ v := av.tmps.getD 0 undef, recovered := false }] ∧ a'.defers = av.defers
  | ex => e = exOf ex ∧ a' = av

def isLeaf : HT → Bool
  | .leaf => true
  | _ => false

/-- Behind a piece of code. -/
structure CP (lf : Bool) {T : Tb} (F : Frm T) (pin : Nat) (μ : Nat → Option Nat) (S : St) (w : World) (a : Act) (μ' : Nat → Option Nat) (S' : St) (w' : World) (a' : Act) : Prop where
  chg : Chg (Trk μ S.H) w w'
  new : ∀ g, Trk μ' S'.H g → Trk μ S.H g ∨ w.heap.size ≤ g
  pinned : ∀ j, j < pin → Pin (S'.H j) (S.H j) (μ' j) (μ j)
  le : pin ≤ S'.nx
  rg : Rg F μ' [] S' a' w'
  size : a'.tmps.size = a.tmps.size
  defers : a'.defers = a.defers
  pl : lf = true → ∃ kl, S'.kl = S.kl ++ kl ∧ Pl F μ S.H S.nx w kl μ' S'.H S'.nx w'

section
variable {P : Program} {F : Frm (tabsOf P)} {μ μ' μ'' : Nat → Option Nat} {S S' S'' : St} {w w' w'' : World} {a a' a'' : Act} {α : Type} {r : α} {M : FuncId → Bool} {pin : Nat} {lf lf' : Bool}

theorem CP.refl (hr : Rg F μ [] S a w) (hp : pin ≤ S.nx) : CP lf F pin μ S w a μ S w a :=
  ⟨Chg.refl w, fun _ h => .inl h, fun _ _ => Pin.refl _ _, hp, hr, rfl, rfl, fun _ => ⟨[], by simp, Pl.refl hr.hp⟩⟩

theorem CP.trans (h : CP lf F pin μ S w a μ' S' w' a') (h' : CP lf F pin μ' S' w' a' μ'' S'' w'' a'') : CP lf F pin μ S w a μ'' S'' w'' a'' where
  chg := h.chg.trans h'.chg fun g hg ht => (h.new g ht).resolve_right (by omega)
  new := fun g hg => by
    rcases h'.new g hg with h1 | h1
    · exact h.new g h1
    · exact .inr (Nat.le_trans h.chg.size h1)
  pinned := fun j hj => (h'.pinned j hj).trans (h.pinned j hj)
  le := h'.le
  rg := h'.rg
  size := h'.size.trans h.size
  defers := h'.defers.trans h.defers
  pl := fun hl => by
    obtain ⟨kl, k1, k2⟩ := h.pl hl
    obtain ⟨kl', k3, k4⟩ := h'.pl hl
    exact ⟨kl ++ kl', by rw [k3, k1, List.append_assoc], k2.trans k4⟩

theorem CP.weak (h : CP lf F pin μ S w a μ' S' w' a') (hl : lf' = true → lf = true) : CP lf' F pin μ S w a μ' S' w' a' :=
  ⟨h.chg, h.new, h.pinned, h.le, h.rg, h.size, h.defers, fun hh => h.pl (hl hh)⟩

theorem CP.shaped (hs : Shaped F pin μ S w μ' S') (hr : Rg F μ' [] S' a w) : CP false F pin μ S w a μ' S' w a :=
  ⟨Chg.refl w, fun g h => .inl (hs.trk g h), hs.pinned, hs.le, hr, rfl, rfl, fun h => by cases h⟩

theorem CP.of_post {done' : List Nat} (hpin : pin ≤ S.nx) (h : Post F μ S w a done' S' w' a') : ∃ μ', CP true F pin μ S w a μ' ⟨fun t => noGd (S'.E t), S'.H, S'.nx, S'.kl⟩ w' a' := by
  obtain ⟨⟨μ', kl, h1, h2, h3⟩, h4, h5⟩ := h
  refine ⟨μ', h2.chg, h2.new, fun j hj => h2.pin j (Nat.lt_of_lt_of_le hj hpin), Nat.le_trans hpin h2.mono, ⟨h3.hp, fun t => ?_, fun t j b x hE => absurd hE (noGd_ne _ j b x)⟩, h4, h5, fun _ => ⟨kl, h1, h2⟩⟩
  have he := h3.e t
  show (match noGd (S'.E t) with
    | .gd j b x => _
    | x => RelV w' _ _ _ x (a'.tmps.getD t undef))
  cases hE : S'.E t <;> simp only [hE] at he <;> first | exact he | simp [noGd, RelV]

theorem CP.of_ppost {x : AV} {val : Value} (hpin : pin ≤ S.nx) (h1 : 1 ≤ a.tmps.size) (h : PPost F μ S.H S.nx S.kl w a x S' w' a' val) :
    ∃ μ', CP true F pin μ S w a μ' ⟨upd (fun _ => .bad) 0 (noGd x), S'.H, S'.nx, S'.kl⟩ w' (a.put (some 0) val) ∧ (a.put (some 0) val).tmps.getD 0 undef = val := by
  obtain ⟨⟨μ', kl, h2, h3, h4, h5⟩, _⟩ := h
  have hg : (a.put (some 0) val).tmps.getD 0 undef = val := by
    simp only [Act.put]
    rw [getD_set (by omega), if_pos rfl]
  have hng : ∀ t j b y, upd (fun _ => AV.bad) 0 (noGd x) t ≠ .gd j b y := fun t j b y => by
    by_cases ht : t = 0
    · subst ht; rw [upd_same]; exact noGd_ne _ _ _ _
    · rw [upd_other ht]; simp
  refine ⟨μ', ⟨h3.chg, h3.new, fun j hj => h3.pin j (Nat.lt_of_lt_of_le hj hpin), Nat.le_trans hpin h3.mono, ⟨h4, fun t => ?_, fun t j b y hE => absurd hE (hng t j b y)⟩, Act.put_size _ _ _, Act.put_defers' _ _ _, fun _ => ⟨kl, h2, h3⟩⟩, hg⟩
  have hr : RelV w' (Not F μ' S'.H) μ' S'.H (upd (fun _ => AV.bad) 0 (noGd x) t) ((a.put (some 0) val).tmps.getD t undef) := by
    by_cases ht : t = 0
    · subst ht; rw [upd_same, hg]; exact noGd_rel h5
    · rw [upd_other ht]; simp [RelV]
  have hn := hng t
  show (match upd (fun _ => AV.bad) 0 (noGd x) t with
    | .gd j b y => _
    | y => RelV w' _ _ _ y _)
  cases hE : upd (fun _ => AV.bad) 0 (noGd x) t <;> rw [hE] at hr hn <;> first | exact hr | exact absurd rfl (hn _ _ _)

/-- What evaluation says of code, made good. -/
def EvOK (P : Program) (C : Calling) (M : FuncId → Bool) (pin n : Nat) (c : Code) (h : HT) : Prop :=
  ∀ (S : St) (α : Type) (K : Ex → St → Option α) (r : α), ev P C M pin n c h S K = some r → ∀ (F : Frm (tabsOf P)) μ w a, n = a.tmps.size → pin ≤ S.nx → Rg F μ [] S a w →
    c.wp P (fun e a' w' => ∃ ex S' μ' av, XR ex e a' av ∧ K ex S' = some r ∧ CP (isLeaf h) F pin μ S w a μ' S' w' av) a w

def JOK (P : Program) (C : Calling) (M : FuncId → Bool) (pin n : Nat) (c : Code) (h : HT) : Prop :=
  ∀ (S : St) (α : Type) (K : Ex → St → Option α) (r : α), joined pin h (fun h => ev P C M pin n c h S) K = some r → ∀ (F : Frm (tabsOf P)) μ w a, n = a.tmps.size → pin ≤ S.nx → Rg F μ [] S a w →
    c.wp P (fun e a' w' => ∃ ex S' μ' av, XR ex e a' av ∧ K ex S' = some r ∧ CP (isLeaf h) F pin μ S w a μ' S' w' av) a w

theorem eqEx_eq : ∀ {x y : Ex}, eqEx x y = true → x = y
  | .normal, .normal, _ => rfl
  | .ret, .ret, _ => rfl
  | .pan, .pan, _ => rfl
  | .exit _, .exit _, h => by rw [Nat.eq_of_beq_eq_true h]
  | .normal, .ret, h => by cases h
  | .normal, .exit _, h => by cases h
  | .normal, .pan, h => by cases h
  | .ret, .normal, h => by cases h
  | .ret, .exit _, h => by cases h
  | .ret, .pan, h => by cases h
  | .exit _, .normal, h => by cases h
  | .exit _, .ret, h => by cases h
  | .exit _, .pan, h => by cases h
  | .pan, .normal, h => by cases h
  | .pan, .ret, h => by cases h
  | .pan, .exit _, h => by cases h

theorem packOuts_ok {ex : Ex} (hr : Rg F μ [] S a w) : ∀ (o : Outs) {K : outsDen o → Option α}, packOuts pin S ex o K = some r →
    ∃ (q : outsDen o) (S' : St) (μ' : Nat → Option Nat), K q = some r ∧ (∀ (β : Type) (K' : Ex → St → Option β), unOuts o q K' = K' ex S') ∧ Shaped F pin μ S w μ' S' ∧ Rg F μ' [] S' a w
  | [], K, h => by simp [packOuts] at h
  | [(e, s)], K, h => by
    simp only [packOuts] at h
    obtain ⟨h1, h2⟩ := cond_some h
    obtain ⟨p, μ', h3, h4, h5⟩ := pack_ok hr h2
    exact ⟨p, _, μ', h3, fun β K' => by rw [← eqEx_eq h1]; rfl, h4, h5⟩
  | (e, s) :: y :: o, K, h => by
    simp only [packOuts] at h
    cases he : eqEx e ex with
    | true =>
      simp only [he, cond_true] at h
      obtain ⟨p, μ', h3, h4, h5⟩ := pack_ok hr h
      exact ⟨.inl p, _, μ', h3, fun β K' => by rw [← eqEx_eq he]; rfl, h4, h5⟩
    | false =>
      simp only [he, cond_false] at h
      obtain ⟨q, S', μ', h3, h4, h5, h6⟩ := packOuts_ok hr (y :: o) h
      exact ⟨.inr q, S', μ', h3, fun β K' => h4 β K', h5, h6⟩

def strip : HT → HT
  | .join _ h => h
  | h => h

theorem joined_ok {C : Calling} {n : Nat} {c : Code} {h : HT} (hok : EvOK P C M pin n c (strip h)) : JOK P C M pin n c h := by
  intro S α K r he F μ w a hn hp hr
  cases h with
  | join o h =>
    simp only [joined] at he
    cases hq : (ev P C M pin n c h S fun ex S => packOuts pin S ex o some) with
    | none => simp [hq] at he
    | some q =>
      simp only [hq, Option.bind_some] at he
      refine wp_mono (hok S _ _ _ hq F μ w a hn hp hr) fun e a' w' ⟨ex, S', μ', av, h1, h2, h3⟩ => ?_
      obtain ⟨q', S2, μ2, h4, h5, h6, h7⟩ := packOuts_ok h3.rg o h2
      cases h4
      exact ⟨ex, S2, μ2, av, h1, by rw [← h5 α K]; exact he, (h3.weak (fun h => by cases h)).trans (CP.shaped h6 h7)⟩
  | _ => exact hok S α K r he F μ w a hn hp hr

/-- A loop, told of. -/
structure LoopRec where
  c : Code
  h : HT
  sh : Shape
  o : Outs
  run : sh.den → Option (outsDen o)

def LoopRec.OK (P : Program) (C : Calling) (M : FuncId → Bool) (pin n : Nat) (l : LoopRec) : Prop :=
  ∀ p r, l.run p = some r → ∃ m, iter (round P C M pin n l.c l.h l.sh l.o) m p = some r

/-- The loops of a piece of code. -/
def loopsIn : Code → HT → List LoopRec
  | .seq a b, h => loopsIn a (strip h.fst) ++ loopsIn b (strip h.snd)
  | .cond _ a b, h => loopsIn a (strip h.fst) ++ loopsIn b (strip h.snd)
  | .block _ c, h => loopsIn c (strip h.fst)
  | .scope c, h => loopsIn c (strip h.fst)
  | .loop c, .loop sh o run h => ⟨c, h, sh, o, run⟩ :: loopsIn c (strip h)
  | _, _ => []

theorem wp_loop_n {c : Code} {Q : Exit → Act → World → Prop} (I : Nat → Act → World → Prop) (h0 : ∀ a w, ¬ I 0 a w)
    (round : ∀ m a w, I (m + 1) a w → c.wp P (Exit.then (fun a' w' => I m a' w') Q) a w) (m : Nat) (h : I m a w) : (Code.loop c).wp P Q a w := by
  intro b k cs
  have key : ∀ m a w, I m a w → ∃ e a' w', Q e a' w' ∧ Arrives P (lone (b.at a (.code c :: .inLoop c :: k)) cs w) b k cs e a' w' := by
    intro m
    induction m with
    | zero => exact fun a w h => absurd h (h0 a w)
    | succ m ih =>
      intro a w hI
      obtain ⟨e, a₁, w₁, hq, harr⟩ := round m a w hI b (.inLoop c :: k) cs
      cases e with
      | normal =>
        obtain ⟨e₂, a₂, w₂, hq₂, harr₂⟩ := ih a₁ w₁ hq
        exact ⟨e₂, a₂, w₂, hq₂, .of_steps (Steps.trans harr (.one step_inLoop)) harr₂⟩
      | exit id => exact ⟨_, a₁, w₁, hq, .pass (x := .inLoop c) rfl (fun _ _ => .inl (by simp)) harr⟩
      | goto l => exact ⟨_, a₁, w₁, hq, .pass (x := .inLoop c) rfl (fun _ _ => .inl (by simp)) harr⟩
      | ret => exact ⟨_, a₁, w₁, hq, .pass (x := .inLoop c) rfl (fun _ _ => .inl (by simp)) harr⟩
      | panic ch => exact ⟨_, a₁, w₁, hq, .pass (x := .inLoop c) rfl (fun _ _ => .inl (by simp)) harr⟩
      | outgrown => exact ⟨_, a₁, w₁, hq, .pass (x := .inLoop c) rfl (fun _ _ => .inl (by simp)) harr⟩
  obtain ⟨e, a', w', hq, harr⟩ := key m a w h
  exact ⟨e, a', w', hq, .of_steps (.one step_loop) harr⟩

theorem leaf_fst {h : HT} (hl : isLeaf h = true) : isLeaf h.fst = true := by cases h <;> first | rfl | cases hl
theorem leaf_snd {h : HT} (hl : isLeaf h = true) : isLeaf h.snd = true := by cases h <;> first | rfl | cases hl

theorem ev_ok (hm : P.follows .mixedOrders = true) {C : Calling} (hC : CallOK P C M) {n : Nat} : ∀ (c : Code) (h : HT), (∀ x ∈ loopsIn c h, x.OK P C M pin n) → EvOK P C M pin n c h
  | .skip, h, _ => by
    intro S α K r he F μ w a hn hp hr
    simp only [ev] at he
    exact wp_skip ⟨.normal, S, μ, _, ⟨rfl, rfl⟩, he, CP.refl hr hp⟩
  | .exit id, h, _ => by
    intro S α K r he F μ w a hn hp hr
    simp only [ev] at he
    exact wp_exit ⟨.exit id, S, μ, _, ⟨rfl, rfl⟩, he, CP.refl hr hp⟩
  | .ret, h, _ => by
    intro S α K r he F μ w a hn hp hr
    simp only [ev] at he
    exact wp_ret ⟨.ret, S, μ, _, ⟨rfl, rfl⟩, he, CP.refl hr hp⟩
  | .region id ops draw, h, _ => by
    intro S α K r he F μ w a hn hp hr
    simp only [ev] at he
    cases hts : turnsOf P M ops draw with
    | none => simp [hts] at he
    | some ts =>
      simp only [hts] at he
      rw [hn] at he
      refine evRegion_ok hm hC hr hts he (fun c a1 a2 w1 hd h => ?_) (fun x S' w' a' val hK hpp => ?_) fun S' w' a' done' hK hpost => ?_
      · obtain ⟨ex, S', μ', av, h1, h2⟩ := h
        cases ex with
        | pan => exact ⟨.pan, S', μ', av, ⟨h1.1, hd.trans h1.2⟩, h2⟩
        | normal => exact absurd h1.1 (by simp [exOf])
        | exit id => exact absurd h1.1 (by simp [exOf])
        | ret => exact absurd h1.1 (by simp [exOf])
      · obtain ⟨h1, h2⟩ := cond_some hK
        obtain ⟨μ', hcp, hg⟩ := CP.of_ppost hp (Nat.le_of_ble_eq_true h1) hpp
        exact ⟨.pan, _, μ', _, ⟨by rw [hg], hpp.defers.trans (Act.put_defers' _ _ _).symm⟩, h2, hcp.weak fun _ => rfl⟩
      · obtain ⟨μ', hcp⟩ := CP.of_post hp hpost
        exact ⟨.normal, _, μ', _, ⟨rfl, rfl⟩, hK, hcp.weak fun _ => rfl⟩
  | .seq x y, h, hl => by
    intro S α K r he F μ w a hn hp hr
    simp only [ev] at he
    have hx := joined_ok (ev_ok hm hC x (strip h.fst) fun z hz => hl z (by simp [loopsIn, hz]))
    have hy := joined_ok (ev_ok hm hC y (strip h.snd) fun z hz => hl z (by simp [loopsIn, hz]))
    refine wp_seq (wp_mono (hx S α _ r he F μ w a hn hp hr) fun e a' w' ⟨ex, S', μ', av, h1, h2, h3⟩ => ?_)
    have h3' : CP (isLeaf h) F pin μ S w a μ' S' w' av := h3.weak leaf_fst
    cases ex with
    | normal =>
      obtain ⟨rfl, rfl⟩ := h1
      refine wp_mono (hy S' α K r h2 F μ' w' a' (hn.trans h3.size.symm) h3.le h3.rg) fun e2 a2 w2 ⟨ex2, S2, μ2, av2, g1, g2, g3⟩ => ?_
      exact ⟨ex2, S2, μ2, av2, g1, g2, h3'.trans (g3.weak leaf_snd)⟩
    | exit id => obtain ⟨rfl, rfl⟩ := h1; exact ⟨.exit id, S', μ', _, ⟨rfl, rfl⟩, h2, h3'⟩
    | ret => obtain ⟨rfl, rfl⟩ := h1; exact ⟨.ret, S', μ', _, ⟨rfl, rfl⟩, h2, h3'⟩
    | pan => obtain ⟨rfl, hd⟩ := h1; exact ⟨.pan, S', μ', _, ⟨rfl, hd⟩, h2, h3'⟩
  | .cond c x y, h, hl => by
    intro S α K r he F μ w a hn hp hr
    simp only [ev] at he
    have hx := joined_ok (ev_ok hm hC x (strip h.fst) fun z hz => hl z (by simp [loopsIn, hz]))
    have hy := joined_ok (ev_ok hm hC y (strip h.snd) fun z hz => hl z (by simp [loopsIn, hz]))
    have hX : joined pin h.fst (fun h => ev P C M pin n x h S) K = some r → x.wp P (fun e a' w' => ∃ ex S' μ' av, XR ex e a' av ∧ K ex S' = some r ∧ CP (isLeaf h) F pin μ S w a μ' S' w' av) a w := fun he =>
      wp_mono (hx S α K r he F μ w a hn hp hr) fun e a' w' ⟨ex, S', μ', av, h1, h2, h3⟩ => ⟨ex, S', μ', av, h1, h2, h3.weak leaf_fst⟩
    have hY : joined pin h.snd (fun h => ev P C M pin n y h S) K = some r → y.wp P (fun e a' w' => ∃ ex S' μ' av, XR ex e a' av ∧ K ex S' = some r ∧ CP (isLeaf h) F pin μ S w a μ' S' w' av) a w := fun he =>
      wp_mono (hy S α K r he F μ w a hn hp hr) fun e a' w' ⟨ex, S', μ', av, h1, h2, h3⟩ => ⟨ex, S', μ', av, h1, h2, h3.weak leaf_snd⟩
    have hc := (opd_ok hr.e c).rel
    cases hcv : opd S.E c <;> simp only [hcv, reduceCtorEq] at he hc
    case b q =>
      simp only [RelV] at hc
      cases q with
      | true => exact wp_cond_true hc (hX he)
      | false => exact wp_cond_false hc (hY he)
    case kb q =>
      simp only [RelV] at hc
      cases q with
      | true => exact wp_cond_true hc (hX he)
      | false => exact wp_cond_false hc (hY he)
  | .block id c, h, hl => by
    intro S α K r he F μ w a hn hp hr
    simp only [ev] at he
    have hx := joined_ok (ev_ok hm hC c (strip h.fst) fun z hz => hl z (by simp [loopsIn, hz]))
    refine wp_block (wp_mono (hx S α _ r he F μ w a hn hp hr) fun e a' w' ⟨ex, S', μ', av, h1, h2, h3⟩ => ?_)
    have h3' : CP (isLeaf h) F pin μ S w a μ' S' w' av := h3.weak leaf_fst
    cases ex with
    | normal => obtain ⟨rfl, rfl⟩ := h1; exact ⟨.normal, S', μ', _, ⟨rfl, rfl⟩, h2, h3'⟩
    | ret => obtain ⟨rfl, rfl⟩ := h1; exact ⟨.ret, S', μ', _, ⟨rfl, rfl⟩, h2, h3'⟩
    | pan => obtain ⟨rfl, hd⟩ := h1; exact ⟨.pan, S', μ', _, ⟨rfl, hd⟩, h2, h3'⟩
    | exit id' =>
      obtain ⟨rfl, rfl⟩ := h1
      simp only [exOf, Exit.inBlock]
      by_cases hid : id' = id
      · subst hid
        simp only [Nat.beq_refl, cond_true] at h2
        rw [if_pos rfl]
        exact ⟨.normal, S', μ', _, ⟨rfl, rfl⟩, h2, h3'⟩
      · simp only [beq_ne hid, cond_false] at h2
        rw [if_neg hid]
        exact ⟨.exit id', S', μ', _, ⟨rfl, rfl⟩, h2, h3'⟩
  | .loop c, h, hl => by
    intro S α K r he F μ w a hn hp hr
    cases h with
    | loop sh o run h =>
      simp only [ev] at he
      have hx := joined_ok (ev_ok hm hC c (strip h) fun z hz => hl z (by simp [loopsIn, hz]))
      have hlo := hl ⟨c, h, sh, o, run⟩ (by simp [loopsIn])
      obtain ⟨p, μ1, h1, h2, h3⟩ := pack_ok hr he
      cases hrun : run p with
      | none => simp [hrun] at h1
      | some q =>
        simp only [hrun, Option.bind_some] at h1
        obtain ⟨m, hm1⟩ := hlo p q hrun
        refine wp_loop_n (fun m a' w' => ∃ p μ', iter (round P C M pin n c h sh o) m p = some q ∧ CP false F pin μ S w a μ' (unpack sh p) w' a') (fun a w ⟨p, _, hi, _⟩ => by simp [iter] at hi) (fun m a' w' ⟨p, μ', hi, hcp⟩ => ?_) m ⟨p, μ1, hm1, CP.shaped h2 h3⟩
        simp only [iter] at hi
        cases hro : round P C M pin n c h sh o p with
        | none => simp [hro] at hi
        | some z =>
          refine wp_mono (hx (unpack sh p) _ _ z hro F μ' w' a' (hn.trans hcp.size.symm) hcp.le hcp.rg) fun e a2 w2 ⟨ex, S2, μ2, av, g1, g2, g3⟩ => ?_
          have g4 : CP false F pin μ S w a μ2 S2 w2 av := hcp.trans (g3.weak fun h => by cases h)
          have out : ∀ {ex}, XR ex e a2 av → (packOuts pin S2 ex o fun r => some (Sum.inr r)) = some z → ∃ ex' S' μ' av', XR ex' e a2 av' ∧ K ex' S' = some r ∧ CP (isLeaf (.loop sh o run h)) F pin μ S w a μ' S' w2 av' := fun {ex} g1 hpo => by
            obtain ⟨q', S', μ3, k1, k2, k3, k4⟩ := packOuts_ok g3.rg o hpo
            simp only [Option.some.injEq] at k1
            rw [hro, ← k1] at hi
            simp only [Option.some.injEq] at hi
            subst hi
            exact ⟨ex, S', μ3, av, g1, by rw [← k2 α K]; exact h1, g4.trans (CP.shaped k3 k4)⟩
          cases ex with
          | normal =>
            obtain ⟨rfl, rfl⟩ := g1
            obtain ⟨p', μ3, k1, k2, k3⟩ := pack_ok g3.rg g2
            simp only [Option.some.injEq] at k1
            rw [hro, ← k1] at hi
            exact ⟨p', μ3, hi, g4.trans (CP.shaped k2 k3)⟩
          | exit id => have g5 := g1; obtain ⟨rfl, rfl⟩ := g1; exact out g5 g2
          | ret => have g5 := g1; obtain ⟨rfl, rfl⟩ := g1; exact out g5 g2
          | pan => have g5 := g1; obtain ⟨rfl, hd⟩ := g1; exact out g5 g2
    | _ => simp [ev] at he
  | .label _, h, _ => by
    intro S α K r he F μ w a hn hp hr
    simp only [ev] at he
    exact wp_label ⟨.normal, S, μ, _, ⟨rfl, rfl⟩, he, CP.refl hr hp⟩
  | .goto _, h, _ => by intro S α K r he; simp [ev] at he
  | .scope c, h, hl => by
    intro S α K r he F μ w a hn hp hr
    simp only [ev] at he
    have hx := joined_ok (ev_ok hm hC c (strip h.fst) fun z hz => hl z (by simp [loopsIn, hz]))
    refine wp_scope_straight (wp_mono (hx S α _ r he F μ w a hn hp hr) fun e a' w' ⟨ex, S', μ', av, h1, h2, h3⟩ => ?_)
    have h3' : CP (isLeaf h) F pin μ S w a μ' S' w' av := h3.weak leaf_fst
    cases ex with
    | normal => obtain ⟨rfl, rfl⟩ := h1; exact ⟨.normal, S', μ', _, ⟨rfl, rfl⟩, h2, h3'⟩
    | ret => obtain ⟨rfl, rfl⟩ := h1; exact ⟨.ret, S', μ', _, ⟨rfl, rfl⟩, h2, h3'⟩
    | exit id' => obtain ⟨rfl, rfl⟩ := h1; exact ⟨.exit id', S', μ', _, ⟨rfl, rfl⟩, h2, h3'⟩
    | pan => obtain ⟨rfl, hd⟩ := h1; exact ⟨.pan, S', μ', _, ⟨rfl, hd⟩, h2, h3'⟩
  | .rangeFunc _ _ _ _, h, _ => by intro S α K r he; simp [ev] at he
  | .refuse _, h, _ => by intro S α K r he; simp [ev] at he

end
end Go.Ev
