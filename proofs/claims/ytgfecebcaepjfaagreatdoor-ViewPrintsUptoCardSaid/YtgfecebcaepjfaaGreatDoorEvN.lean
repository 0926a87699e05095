/- Regions, whatever their order. -/
import Derived.Test.YtgfecebcaepjfaaGreatDoorEvM
namespace Go.Ev
open Go
section
variable {P : Program} {F : Frm (tabsOf P)} {μ μ' : Nat → Option Nat} {S S' : St} {w w' : World} {a a' : Act} {done : List Nat} {α : Type} {r : α} {M : FuncId → Bool} {ops : Array Oper} {Q : Exit → Act → World → Prop}

theorem kind_st {ds : List Nat} {o : Oper} {d : Nat} (h : kindOf P M ds o = .st d) : d ∉ ds ∧ ∃ t x, o.op = .store t (.tmp d) x := by
  unfold kindOf at h
  cases hv : isVal P o.op with
  | true => simp [hv] at h
  | false =>
    simp only [hv, cond_false] at h
    split at h <;> try (cases h; done)
    · split at h <;> cases h
    · rename_i t d' x hop
      cases hh : hasN ds d' with
      | true => simp [hh] at h
      | false =>
        simp only [hh, cond_false, Kd.st.injEq] at h
        subst h
        exact ⟨hasN_not hh, t, x, hop⟩
    · rename_i f _ _ _ 
      cases hm : M f <;> simp [hm] at h

theorem others_av {ds : List Nat} {x : Nat} {ox : Oper} {bh : List Nat} : ∀ (l : List Oper) (k : Nat) {wild av : List Nat}, others P M ops ds done x ox bh k l = some (wild, av) → ∀ d, d ∈ av → d ∉ ds
  | [], k, wild, av, h => by
    simp only [others, Option.some.injEq, Prod.mk.injEq] at h
    intro d hd; rw [← h.2] at hd; cases hd
  | o :: l, k, wild, av, h => by
    simp only [others] at h
    cases ho : others P M ops ds done x ox bh (k + 1) l with
    | none => simp [ho] at h
    | some q =>
      obtain ⟨wild', av'⟩ := q
      simp only [ho] at h
      have ih := others_av l (k + 1) ho
      cases hc : (hasN done k || Nat.beq k x || hasN bh k) with
      | true =>
        simp only [hc, cond_true, Option.some.injEq, Prod.mk.injEq] at h
        obtain ⟨rfl, rfl⟩ := h
        exact ih
      | false =>
        simp only [hc, cond_false] at h
        obtain ⟨_, h2⟩ := cond_some h
        cases hk : kindOf P M ds o <;> simp only [hk, Option.some.injEq, Prod.mk.injEq] at h2 <;> obtain ⟨rfl, rfl⟩ := h2
        · exact ih
        · exact ih
        · intro d hd
          rcases List.mem_cons.1 hd with rfl | hd
          · exact (kind_st hk).1
          · exact ih d hd
        · exact ih

/-! The cells that are watched. -/
def SameC (x y : AV) : Prop := ∀ (w w' : World) (N N' : Nat → Prop) (μ μ' : Nat → Option Nat) (H H' : Nat → Blk) (v v' : Value), RelV w N μ H x v → RelV w' N' μ' H' y v' → v = v'

theorem sameCell_ok {x y : AV} {K : Option α} (h : sameCell x y K = some r) : K = some r ∧ SameC x y := by
  unfold sameCell at h
  split at h
  · obtain ⟨h1, h2⟩ := cond_some h
    obtain ⟨h3, h4⟩ := need_some h2
    have h1 := of_decide_eq_true h1
    have h3 := of_decide_eq_true h3
    subst h1; subst h3
    refine ⟨h4, fun w w' N N' μ μ' H H' v v' g g' => ?_⟩
    simp only [RelV] at g g'; rw [g, g']
  · obtain ⟨h3, h4⟩ := need_some h
    have h3 := of_decide_eq_true h3
    subst h3
    refine ⟨h4, fun w w' N N' μ μ' H H' v v' g g' => ?_⟩
    simp only [RelV] at g g'; rw [g, g']
  · obtain ⟨h3, h4⟩ := need_some h
    have h3 := of_decide_eq_true h3
    subst h3
    refine ⟨h4, fun w w' N N' μ μ' H H' v v' g g' => ?_⟩
    simp only [RelV] at g g'; rw [g, g']
  all_goals first
    | (cases h; done)
    | (obtain ⟨h3, h4⟩ := need_some h
       have h3 := eq_of_beq h3
       subst h3
       refine ⟨h4, fun w w' N N' μ μ' H H' v v' g g' => ?_⟩
       simp only [RelV] at g g'; rw [g, g'])

theorem sameCells_ok : ∀ {xs ys : List AV} {K : Option α}, sameCells xs ys K = some r → K = some r ∧ ∀ (i : Nat) x y, xs[i]? = some x → ys[i]? = some y → SameC x y
  | [], [], K, h => by
    simp only [sameCells] at h
    exact ⟨h, by simp⟩
  | x :: xs, y :: ys, K, h => by
    simp only [sameCells] at h
    obtain ⟨h1, h2⟩ := sameCell_ok h
    obtain ⟨h3, h4⟩ := sameCells_ok h1
    refine ⟨h3, fun i a b ha hb => ?_⟩
    cases i with
    | zero => simp at ha hb; subst ha; subst hb; exact h2
    | succ i => simp at ha hb; exact h4 i a b ha hb
  | [], _ :: _, K, h => by simp [sameCells] at h
  | _ :: _, [], K, h => by simp [sameCells] at h

theorem keepW_ok {H H' : Nat → Blk} {k : Nat} : ∀ {W : List Wat} {K : Option α}, keepW H H' k W K = some r → K = some r ∧ ∀ e ∈ W, k ∈ e.ix → ∃ cs cs', H e.b = .vars cs ∧ H' e.b = .vars cs' ∧ e.o + e.n ≤ cs.length ∧ e.o + e.n ≤ cs'.length ∧
      ∀ (i : Nat) x y, e.o ≤ i → i < e.o + e.n → cs[i]? = some x → cs'[i]? = some y → SameC x y
  | [], K, h => ⟨h, by simp⟩
  | e :: W, K, h => by
    simp only [keepW] at h
    cases hh : hasN e.ix k with
    | false =>
      simp only [hh, cond_false] at h
      obtain ⟨h1, h2⟩ := keepW_ok h
      refine ⟨h1, fun e' he' hk => ?_⟩
      rcases List.mem_cons.1 he' with rfl | he'
      · exact absurd hk (hasN_not hh)
      · exact h2 e' he' hk
    | true =>
      simp only [hh, cond_true] at h
      split at h
      · rename_i cs cs' hc hc'
        obtain ⟨h1, h2⟩ := cond_some h
        simp only [Bool.and_eq_true] at h1
        obtain ⟨h3, h4⟩ := sameCells_ok h2
        obtain ⟨h5, h6⟩ := keepW_ok h3
        refine ⟨h5, fun e' he' hk => ?_⟩
        rcases List.mem_cons.1 he' with rfl | he'
        · refine ⟨cs, cs', hc, hc', Nat.le_of_ble_eq_true h1.1, Nat.le_of_ble_eq_true h1.2, fun i x y hi hn hx hy => ?_⟩
          refine h4 (i - e'.o) x y ?_ ?_
          · rw [List.getElem?_take_of_lt (by omega), List.getElem?_drop, show e'.o + (i - e'.o) = i by omega]; exact hx
          · rw [List.getElem?_take_of_lt (by omega), List.getElem?_drop, show e'.o + (i - e'.o) = i by omega]; exact hy
        · exact h6 e' he' hk
      · cases h

/-- Which cells an operation has to leave as they are. -/
def Link (W : List Wat) (μ : Nat → Option Nat) (S : St) (T : Nat → Nat → Nat → Prop) : Prop :=
  ∀ j g k, T j g k → ∃ e ∈ W, j ∈ e.ix ∧ e.o ≤ k ∧ k < e.o + e.n ∧ e.b < S.nx ∧ ∀ cs, S.H e.b = .vars cs → μ e.b = some g

theorem Link.step {W W' : List Wat} {T : Nat → Nat → Nat → Prop} {kl : List Nat} (h : Link W μ S T) (hpl : Pl F μ S.H S.nx w kl μ' S'.H S'.nx w') (hW : ∀ e ∈ W, e ∈ W') : Link W' μ' S' T := fun j g k hT => by
  obtain ⟨e, h1, h2, h3, h4, h5, h6⟩ := h j g k hT
  refine ⟨e, hW e h1, h2, h3, h4, Nat.lt_of_lt_of_le h5 hpl.mono, fun cs' hcs => ?_⟩
  obtain ⟨⟨cs, g1⟩, g2⟩ := Pin.vars (hcs ▸ hpl.pin e.b h5)
  rw [g2]
  exact h6 cs g1

theorem cell_of {cs : List AV} {b g k : Nat} (hp : Hp F μ S.H S.nx w) (hb : S.H b = .vars cs) (hg : μ b = some g) (hk : k < cs.length) : ∃ x v, cs[k]? = some x ∧ w.cell? ⟨g, k, none⟩ = some v ∧ RelV w (Not F μ S.H) μ S.H x v := by
  have hB := hp.blk b
  simp only [hb, RelB] at hB
  rcases hB with hB | ⟨g', vs, h1, h2, h3, _⟩
  · rw [hg] at hB; cases hB
  rw [hg] at h1
  cases h1
  obtain ⟨x, hx⟩ : ∃ x, cs[k]? = some x := ⟨cs[k], List.getElem?_eq_getElem hk⟩
  obtain ⟨v, hv, hr⟩ := RelVs_get k h2 hx
  obtain ⟨hlt, hve⟩ := List.getElem?_eq_some_iff.1 hv
  refine ⟨x, v, hx, ?_, hr⟩
  have := h3 k hlt
  rw [Nat.zero_add] at this
  rw [this, hve]

theorem watched_kept {W : List Wat} {T : Nat → Nat → Nat → Prop} {i : Nat} {K : Option α} {kl : List Nat} (hp : Hp F μ S.H S.nx w) (hp' : Hp F μ' S'.H S'.nx w') (hpl : Pl F μ S.H S.nx w kl μ' S'.H S'.nx w') (hl : Link W μ S T) (h : keepW S.H S'.H i W K = some r) :
    ∀ g k, T i g k → ∀ v, w.cell? ⟨g, k, none⟩ = some v → w'.cell? ⟨g, k, none⟩ = some v := fun g k hT v hv => by
  obtain ⟨e, h1, h2, h3, h4, h5, h6⟩ := hl i g k hT
  obtain ⟨cs, cs', g1, g2, g3, g4, g5⟩ := (keepW_ok h).2 e h1 h2
  have hm := h6 cs g1
  obtain ⟨_, hm'⟩ := Pin.vars (g2 ▸ hpl.pin e.b h5)
  rw [hm] at hm'
  obtain ⟨x, v1, e1, e2, e3⟩ := cell_of (S := S) hp g1 hm (k := k) (by omega)
  obtain ⟨y, v2, f1, f2, f3⟩ := cell_of (S := S') hp' g2 hm' (k := k) (by omega)
  have := g5 k x y h3 h4 e1 f1 _ _ _ _ _ _ _ _ _ _ e3 f3
  rw [e2] at hv
  cases hv
  rw [f2, this]

/-- What an operation does is what its kind pledges. -/
theorem eff_GK {ds : List Nat} {t0 : Array Value} {o : Oper} (hv : isVal P o.op = false) (ht : ∀ d, d ∉ ds → a.tmps.getD d undef = t0.getD d undef) (hs : Sure P M o a a' w w')
    {kl : List Nat} (hpl : Pl F μ S.H S.nx w kl μ' S'.H S'.nx w') : ∀ {i : Nat} {T2 : Nat → Nat → Nat → Prop}, (∀ g k, T2 i g k → ∀ v, w.cell? ⟨g, k, none⟩ = some v → w'.cell? ⟨g, k, none⟩ = some v) → GK t0 i (kindOf P M ds o) (Trk μ S.H, T2) w (Trk μ' S'.H, T2) w' := by
  intro i T2 hT2
  refine ⟨hpl.new, fun _ _ _ => id, hT2, ?_⟩
  cases hk : kindOf P M ds o with
  | val =>
    exfalso
    unfold kindOf at hk
    simp only [hv, cond_false] at hk
    split at hk <;> try (cases hk; done)
    · split at hk <;> cases hk
    · rename_i d _ _; cases hh : hasN ds d <;> simp [hh] at hk
    · rename_i f _ _ _; cases hm : M f <;> simp [hm] at hk
  | new =>
    have hf := hs.fine
    unfold kindOf at hk
    simp only [hv, cond_false] at hk
    split at hk <;> try (cases hk; done)
    · rename_i hop; rw [hop] at hf; exact hf
    · rename_i hop; rw [hop] at hf; exact hf
    · rename_i hop; rw [hop] at hf; exact hf
    · rename_i hop; rw [hop] at hf; exact hf
    · rename_i hop; rw [hop] at hf; exact hf
    · rename_i hop
      rw [hop] at hf
      split at hk
      · rename_i hu; exact hf hu
      · cases hk
    · rename_i d _ _; cases hh : hasN ds d <;> simp [hh] at hk
    · rename_i f _ _ hop
      cases hm : M f with
      | true => exact hs.call f _ _ hop hm
      | false => simp [hm] at hk
  | st d =>
    obtain ⟨hd, t, x, hop⟩ := kind_st hk
    have hf := hs.fine
    rw [hop] at hf
    refine hf _ fun g o hgo => ⟨o, ?_⟩
    rw [← ht d hd]
    exact hgo
  | wild => exact ⟨hpl.chg.size, hpl.chg.keep⟩

theorem put_off {ds : List Nat} {t0 : Array Value} (ht : ∀ d, d ∉ ds → a.tmps.getD d undef = t0.getD d undef) {dst : Option Nat} (hd : ∀ d, dst = some d → d ∈ ds) {v : Value} :
    ∀ d, d ∉ ds → (a.put dst v).tmps.getD d undef = t0.getD d undef := by
  intro d hn
  rw [← ht d hn]
  cases dst with
  | none => rfl
  | some e =>
    have hne : e ≠ d := fun he => hn (he ▸ hd e rfl)
    simp [Act.put, Array.getElem?_setIfInBounds_ne hne]

theorem St.put_H (S : St) (d : Option Nat) (v : AV) : (S.put d v).H = S.H := by cases d <;> rfl

theorem planAlts_ok (E : PT → Prop) (hE : ∀ a b, E (.two a b) → E a ∧ E b) {f : Nat → Option PT} : ∀ (l : List Nat) {pt : PT}, planAlts f l = some pt → E pt → l ≠ [] ∧ ∀ k ∈ l, ∃ a, f k = some a ∧ E a
  | [], pt, h, _ => by cases h
  | [k], pt, h, he => by
    simp only [planAlts] at h
    refine ⟨by simp, fun k' hk => ?_⟩
    rw [List.mem_singleton] at hk
    subst hk
    exact ⟨pt, h, he⟩
  | k :: k2 :: l, pt, h, he => by
    simp only [planAlts] at h
    cases hf : f k with
    | none => simp [hf] at h
    | some a =>
      cases hr : planAlts f (k2 :: l) with
      | none => simp [hf, hr] at h
      | some b =>
        simp only [hf, hr, Option.some.injEq] at h
        subst h
        obtain ⟨h1, h2⟩ := hE _ _ he
        obtain ⟨_, h4⟩ := planAlts_ok E hE (k2 :: l) hr h2
        refine ⟨by simp, fun k' hk => ?_⟩
        rcases List.mem_cons.1 hk with rfl | hk
        · exact ⟨a, hf, h1⟩
        · exact h4 k' hk

theorem plan_ok {C : Calling} (hC : CallOK P C M) (hsel : ∀ (j : Nat) (o : Oper) cs b, ops[j]? = some o → o.op ≠ .select cs b) {ds : List Nat} (hds : ∀ (i : Nat) (o : Oper) (d : Nat), ops[i]? = some o → o.dst = some d → d ∈ ds) {t0 : Array Value}
    (hQ : ∀ c a a' w, a'.defers = a.defers → Q (.panic c) a w → Q (.panic c) a' w) {K : St → Option α} {Kp : AV → St → Option α} : ∀ (n : Nat) (done : List Nat) (listed : Array Bool) (F : Frm (tabsOf P)) (μ : Nat → Option Nat) (dn : List Nat) (W : List Wat) (T2 : Nat → Nat → Nat → Prop) (S : St) (a : Act) (w : World) (ts : PT), Ld ops done listed → Clo ops listed → Link W μ S T2 →
      plan P M ops ds n done = some ts → evTurns P C a.tmps.size ops ts dn W S K Kp = some r → Rg F μ dn S a w → (∀ x S' w' a' val, Kp x S' = some r → PPost F μ S.H S.nx S.kl w a x S' w' a' val → Q (.panic [{ v := val, recovered := false }]) a' w') → (∀ d, d ∉ ds → a.tmps.getD d undef = t0.getD d undef) →
      (∀ S' w' a' done', K S' = some r → Post F μ S w a done' S' w' a' → Q .normal a' w') → wpAnyG P ops (GI P M ops ds t0) Q n listed (Trk μ S.H, T2) a w
  | 0, done, listed, F, μ, dn, W, T2, S, a, w, ts, hld, hclo, hlk, hp, h, hr, hq, ht, hn => by
    simp only [plan] at hp
    have hre : readies done 0 ops.toList = [] ∧ ts = .nil := by
      cases hq : readies done 0 ops.toList with
      | nil => simp only [hq, Option.some.injEq] at hp; exact ⟨rfl, hp.symm⟩
      | cons x y => simp [hq] at hp
    obtain ⟨hre, rfl⟩ := hre
    refine ⟨?_, hn S w a dn h (.refl hr)⟩
    refine List.eq_nil_iff_forall_not_mem.2 fun i hi => ?_
    rw [ready_readies hld, hre] at hi
    cases hi
  | n + 1, done, listed, F, μ, dn, W, T2, S, a, w, ts, hld, hclo, hlk, hp, h, hr, hq, ht, hn => by
    simp only [plan] at hp
    cases hpk : pickV P (mayPick P M ops ds done) done 0 ops.toList with
    | some q =>
      obtain ⟨k0, o⟩ := q
      simp only [hpk] at hp
      cases hoth : others P M ops ds done k0 o (behind k0 0 ops.toList []) 0 ops.toList with
      | none => simp [hoth] at hp
      | some q =>
        obtain ⟨wild, av⟩ := q
        cases hpl : plan P M ops ds n (k0 :: done) with
        | none => simp [hoth, hpl] at hp
        | some rest =>
          simp only [hoth, hpl, Option.some.injEq] at hp
          subst hp
          obtain ⟨hok, hdk, hv, hrd⟩ := pickV_ok (ops := ops) ops.toList 0 (by simp) hpk
          have hkl : k0 < ops.size := (Array.getElem?_eq_some_iff.1 hok).1
          simp only [evTurns] at h
          obtain ⟨h0, h1⟩ := cond_some h
          obtain ⟨v, val, hK, hrg, hy⟩ := evOp_val (X := fun g k => XK a.tmps wild av (Trk μ S.H) g ∧ ¬ WRof P μ S av a.tmps ⟨k0, o, wild, av⟩ g k) hv hr (fresh_ok h0) (fun ρA hρ hrd hc => chk_free (s := ⟨k0, o, wild, av⟩) hr hρ hrd hc) h1
          have hK := (keepW_ok hK).1
          let WR := WRof P μ S av a.tmps ⟨k0, o, wild, av⟩
          let T3 : Nat → Nat → Nat → Prop := fun j g k => T2 j g k ∨ (j ∈ wild ∧ WR g k)
          have hpl0 : Pl F μ S.H S.nx w [] μ (S.put o.dst v).H (S.put o.dst v).nx w := by
            have := Pl.refl hr.hp
            cases o.dst <;> exact this
          have hwix : ∀ e ∈ Turn.watch P ⟨k0, o, wild, av⟩ S.E, e.ix = wild := fun e he => by
            unfold Turn.watch at he
            simp only at he
            cases hw : isNilN wild with
            | true => simp [hw] at he
            | false =>
              simp only [hw, cond_false] at he
              split at he
              · split at he
                · simp only [List.mem_singleton] at he; rw [he]
                · cases he
              · cases he
          have hlk0 : Link (Turn.watch P ⟨k0, o, wild, av⟩ S.E ++ W) μ S T3 := fun j g k hT => by
            rcases hT with hT | ⟨hj, e, he, e1, e2, e3, e4, _⟩
            · obtain ⟨e, g1, g2⟩ := hlk j g k hT
              exact ⟨e, List.mem_append_right _ g1, g2⟩
            · exact ⟨e, List.mem_append_left _ he, by rw [hwix e he]; exact hj, e3, e4, Nat.lt_of_not_le fun hle => e1 (hr.hp.dead _ hle), fun _ _ => e2⟩
          have hlk3 := hlk0.step hpl0 (fun e he => he)
          have ih := plan_ok hC hsel hds (t0 := t0) hQ n (k0 :: done) (listed.setIfInBounds k0 true) F μ (dstL o ++ dn) _ T3 (S.put o.dst v) (a.put o.dst val) w rest (hld.cons hkl) (hclo.set hok ((rdy_iff hld).1 hrd)) hlk3 hpl (by rw [Act.put_size]; exact hK) hrg
            (fun x S' w' a' val h1 h2 => hq x S' w' a' val h1 (PPost.trans (S1 := S.put o.dst v) ⟨μ, [], by cases o.dst <;> simp [St.put], hpl0, h2⟩ (Act.put_defers' _ _ _)))
            (put_off ht fun d hd => hds k0 o d hok hd) fun S' w' a' d' hK' hp' => hn S' w' a' d' hK' (by
              refine Post.trans (S1 := S.put o.dst v) ⟨μ, [], by cases o.dst <;> simp [St.put], hpl0, hrg, hp'⟩ (Act.put_size _ _ _) (Act.put_defers' _ _ _))
          rw [St.put_H] at ih
          have hav := others_av ops.toList 0 hoth
          have hXt : ∀ g, XK t0 wild av (Trk μ S.H) g → XK a.tmps wild av (Trk μ S.H) g := fun g hX => by
            rcases hX with hX | ⟨d, hd, o', ho'⟩
            · exact .inl hX
            · exact .inr ⟨d, hd, o', by rw [ht d (hav d hd)]; exact ho'⟩
          refine wpAnyG_less (T1 := (Trk μ S.H, T3)) (fun j T' w' hg o' ho' => ?_) (wpAnyG_first (J := JK t0 wild av (Trk μ S.H) WR w) hok hsel hQ (fun T w o' ho' => ?_) bnd_eq n listed (Trk μ S.H, T3) a w (fun j oj hoj hji hun hno => ?_) hclo ((ready_iff hld).2 ⟨o, hok, hdk, hrd⟩) ?_ ⟨Keep.refl w, fun g h => .inl h, fun g k hw => ⟨fun j hj => .inr ⟨hj, hw⟩, fun _ h => h⟩⟩ ih)
          · obtain ⟨q1, q2, q3, q4⟩ := hg o' ho'
            refine ⟨q1, fun j' g k hT => q2 j' g k (.inl hT), fun g k hT => q3 g k (.inl hT), ?_⟩
            generalize kindOf P M ds o' = kd at q4 ⊢
            cases kd <;> exact q4
          · rw [hok] at ho'; cases ho'
            have : kindOf P M ds o = .val := by unfold kindOf; simp [hv]
            rw [this]
            exact ⟨fun g h => .inl h, fun _ _ _ h => h, fun _ _ _ _ h => h, Keep.refl w⟩
          · have hjl : j < ops.size := (Array.getElem?_eq_some_iff.1 hoj).1
            obtain ⟨h2, h3⟩ := others_ok ops.toList 0 (by simp) hoth j oj (Nat.zero_le _) hoj (by rw [← hld.getT hjl true]; exact hun) hji hno
            refine ⟨h2, fun T w T' w' hj hg => JK.step h3 (fun g k hw d hd o' ho' => ?_) hj (hg oj hoj)⟩
            obtain ⟨e, _, _, _, _, _, e6⟩ := hw
            exact e6 d hd o' (by rw [ht d (hav d hd)]; exact ho')
          · rcases hy with ⟨h2, h3⟩ | ⟨h2, h3⟩
            · refine .inl ⟨h2, fun T w' hj => h3 w' ⟨fun g k hX v hv => ?_⟩⟩
              by_cases hw : WR g k
              · exact (hj.2.2 g k hw).2 v hv
              · have hlt := World.block_lt_of_cell? w _ hv
                rw [cell?_of_heap (hj.1.keep g hlt fun hX' => hX ⟨hXt g hX', hw⟩)]
                exact hv
            · exact .inr ⟨h2, h3⟩
    | none =>
      simp only [hpk] at hp
      obtain ⟨hne, hall⟩ := planAlts_ok (fun pt => evTurns P C a.tmps.size ops pt dn W S K Kp = some r) (fun _ _ h => agr_some h) _ hp h
      refine ⟨fun he => ?_, fun i hi => ?_⟩
      · obtain ⟨k, hk⟩ := List.exists_mem_of_ne_nil _ hne
        have : k ∈ Region.ready .any ops listed := (ready_readies hld).2 hk
        rw [he] at this; cases this
      · rw [ready_readies hld] at hi
        obtain ⟨ti, hfi, h⟩ := hall i hi
        cases hok : ops[i]? with
        | none => simp [hok] at hfi
        | some o =>
          cases hpl : plan P M ops ds n (i :: done) with
          | none => simp [hok, hpl] at hfi
          | some rest =>
            simp only [hok, hpl, Option.some.injEq] at hfi
            subst hfi
            have hkl : i < ops.size := (Array.getElem?_eq_some_iff.1 hok).1
            have hdeps : ∀ e ∈ o.after, Region.binds .any e = true → listed.getD e.on false = true := by
              obtain ⟨o', h1, _, h3⟩ := (ready_iff hld).1 ((ready_readies hld).2 hi)
              rw [hok] at h1; cases h1
              exact (rdy_iff hld).1 h3
            simp only [evTurns] at h
            obtain ⟨h0, h1⟩ := cond_some h
            -- behind it
            have next : ∀ {S1 : St} {w1 : World} {a1 : Act}, keepW S.H S1.H i W (evTurns P C a.tmps.size ops rest (dstL o ++ dn) (Turn.watch P ⟨i, o, [], []⟩ S.E ++ W) S1 K Kp) = some r → (∃ μ1 kl, S1.kl = S.kl ++ kl ∧ Pl F μ S.H S.nx w kl μ1 S1.H S1.nx w1 ∧ Rg F μ1 (dstL o ++ dn) S1 a1 w1 ∧
                ((∀ g k, T2 i g k → ∀ v, w.cell? ⟨g, k, none⟩ = some v → w1.cell? ⟨g, k, none⟩ = some v) → GK t0 i (kindOf P M ds o) (Trk μ S.H, T2) w (Trk μ1 S1.H, T2) w1)) → (∃ v, a1 = a.put o.dst v) →
                ∃ T', GI P M ops ds t0 i (Trk μ S.H, T2) w T' w1 ∧ wpAnyG P ops (GI P M ops ds t0) Q n (listed.setIfInBounds i true) T' a1 w1 := by
              rintro S1 w1 a1 hK0 ⟨μ1, kl, e1, e2, e3, e4⟩ ⟨v1, rfl⟩
              have hK1 := (keepW_ok hK0).1
              have hT2 := watched_kept hr.hp e3.hp e2 hlk hK0
              refine ⟨(Trk μ1 S1.H, T2), fun o' ho' => by rw [hok] at ho'; cases ho'; exact e4 hT2, ?_⟩
              exact plan_ok hC hsel hds (t0 := t0) hQ n (i :: done) (listed.setIfInBounds i true) F μ1 (dstL o ++ dn) _ T2 S1 (a.put o.dst v1) w1 rest (hld.cons hkl) (hclo.set hok hdeps) (hlk.step e2 fun e he => List.mem_append_right _ he) hpl (by rw [Act.put_size]; exact hK1) e3
                (fun x S' w' a' val h1 h2 => hq x S' w' a' val h1 (PPost.trans ⟨μ1, kl, e1, e2, h2⟩ (Act.put_defers' _ _ _)))
                (put_off ht fun d hd => hds i o d hok hd) fun S' w' a' d' hK' hp' => hn S' w' a' d' hK' (Post.trans ⟨μ1, kl, e1, e2, e3, hp'⟩ (Act.put_size _ _ _) (Act.put_defers' _ _ _))
            have hw : wpTurn P ops o a w (fun a' w' => ∃ T', GI P M ops ds t0 i (Trk μ S.H, T2) w T' w' ∧ wpAnyG P ops (GI P M ops ds t0) Q n (listed.setIfInBounds i true) T' a' w') Q := by
              cases hv : isVal P o.op with
              | false =>
                refine evOp_eff hC hv hr (fresh_ok h0) h1 (fun x S' w' val h1 h2 => hq x S' w' a val h1 h2) fun S1 w1 a1 hK1 hp1 hs1 => ?_
                obtain ⟨⟨μ1, kl, e1, e2, e3⟩, _, _⟩ := hp1
                exact next hK1 ⟨μ1, kl, e1, e2, e3, fun hT => eff_GK hv ht hs1 e2 hT⟩ hs1.put
              | true =>
                obtain ⟨v, val, hK, hrg, hy⟩ := evOp_val (X := fun _ _ => False) hv hr (fresh_ok h0) (fun _ _ _ _ => .none) h1
                have hk : kindOf P M ds o = .val := by unfold kindOf; simp [hv]
                have := next hK ⟨μ, [], by cases o.dst <;> simp [St.put], by have := Pl.refl hr.hp; cases o.dst <;> exact this, hrg, fun hT => by rw [hk, St.put_H]; exact ⟨fun g h => .inl h, fun _ _ _ h => h, hT, Keep.refl w⟩⟩ ⟨val, rfl⟩
                unfold wpTurn
                rcases hy with ⟨h1, h2⟩ | ⟨h1, h2⟩
                · rw [if_pos h1]
                  unfold Oper.wp
                  rw [h2 w (Agr.refl w)]
                  exact this
                · rw [if_neg (by simp [h1]), ← h2]
                  exact this
            unfold wpOp
            simp only [hok]
            unfold wpTurn at hw
            split
            · rename_i hh; rw [if_pos hh] at hw; exact .inl hw
            · rename_i hh; rw [if_neg hh] at hw; exact hw

theorem noSel {l : List Oper} (h : (l.all fun o => !isSelect o.op) = true) {o : Oper} (ho : o ∈ l) : ∀ cs b, o.op ≠ .select cs b := by
  intro cs b he
  have := List.all_eq_true.1 h o ho
  simp [he, isSelect] at this

/-- A region. -/
theorem evRegion_ok (hm : P.follows .mixedOrders = true) {C : Calling} (hC : CallOK P C M) {id : Nat} {draw : Bool} {ts : PT} {K : St → Option α} {Kp : AV → St → Option α} (hr : Rg F μ [] S a w) (hts : turnsOf P M ops draw = some ts)
    (h : evTurns P C a.tmps.size ops ts [] [] S K Kp = some r)
    (hQ : ∀ c a a' w, a'.defers = a.defers → Q (.panic c) a w → Q (.panic c) a' w)
    (hq : ∀ x S' w' a' val, Kp x S' = some r → PPost F μ S.H S.nx S.kl w a x S' w' a' val → Q (.panic [{ v := val, recovered := false }]) a' w')
    (hn : ∀ S' w' a' done', K S' = some r → Post F μ S w a done' S' w' a' → Q .normal a' w') : (Code.region id ops draw).wp P Q a w := by
  cases draw with
  | false =>
    simp only [turnsOf, cond_false, Option.some.injEq] at hts
    subst hts
    exact region_ok hC hr h hq hn
  | true =>
    simp only [turnsOf, cond_true] at hts
    obtain ⟨hsel, hpl⟩ := cond_some hts
    let w1 : World := { w with drawn := w.drawn + 1 }
    have hchg : Chg (fun _ => False) w w1 := ⟨⟨Nat.le_refl _, fun _ _ _ => rfl⟩, rfl, rfl, rfl⟩
    have hpl1 : Pl F μ S.H S.nx w [] μ S.H S.nx w1 := Pl.keep hr.hp hchg
    have hr1 : Rg F μ [] S a w1 := by
      refine ⟨hr.hp.keep ⟨Nat.le_refl _, fun _ _ _ => rfl⟩ fun _ _ => rfl, ?_, hr.tags⟩
      have := hr.e.kill (kl := []) hpl1.tr
      exact this
    let Q' : Exit → Act → World → Prop := fun e a w => (e = .normal ∧ Q .normal a w) ∨ ∃ c, e = .panic c ∧ Q (.panic c) a w
    have hQ' : ∀ c a a' w, a'.defers = a.defers → Q' (.panic c) a w → Q' (.panic c) a' w := fun c a a' w hd h => by
      rcases h with ⟨h, _⟩ | ⟨c', h, h2⟩
      · cases h
      · cases h; exact .inr ⟨c, rfl, hQ c a a' w hd h2⟩
    refine wp_mono (wp_region_any (Q := Q') hm (wpAny_of_G _ _ _ _ _ (plan_ok (t0 := a.tmps) hC (fun j o cs b ho => noSel hsel (by rw [Array.mem_toList_iff]; exact Array.mem_of_getElem? ho) cs b) (ds := dstsOf ops.toList) (fun i o d ho hd => ?_) hQ' ops.size [] (Array.replicate ops.size false) F μ [] [] (fun _ _ _ => False) S a w1 ts ?_ (fun m om _ hl => by simp [Array.getD] at hl) (fun _ _ _ h => h.elim) hpl h hr1 (fun x S' w' a' val h1 h2 => .inr ⟨_, rfl, hq x S' w' a' val h1 (PPost.trans (S1 := S) ⟨μ, [], by simp, hpl1, h2⟩ rfl)⟩) (fun _ _ => rfl)
      fun S' w' a' done' hK hp => .inl ⟨rfl, hn S' w' a' done' hK (Post.trans (S1 := S) ⟨μ, [], by simp, hpl1, hr1, hp⟩ rfl rfl)⟩))) fun e a w h => by
        rcases h with ⟨rfl, h⟩ | ⟨c, rfl, h⟩
        · exact h
        · exact h
    · simp only [dstsOf, List.mem_filterMap]
      exact ⟨o, by rw [Array.mem_toList_iff]; exact Array.mem_of_getElem? ho, hd⟩
    · refine ⟨by simp, fun i hi => ?_, fun i hi => by cases hi⟩
      simp [hasN, hi]

end
end Go.Ev
