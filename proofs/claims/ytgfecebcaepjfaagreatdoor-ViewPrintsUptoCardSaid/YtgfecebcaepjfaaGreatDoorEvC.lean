/- The operations that make or write memory. -/
import Derived.Test.YtgfecebcaepjfaaGreatDoorEvq4
import Derived.Laws.Rows
namespace Go.Ev
open Go
section
variable {P : Program} {T : Tb} {F : Frm T} {μ : Nat → Option Nat} {H : Nat → Blk} {nx : Nat} {w : World} {N : Nat → Prop} {α : Type} {r : α}

/-- A world with one block more (and perhaps some draws). -/
structure Grew (w : World) (o : Obj) (w' : World) : Prop where
  heap : w'.heap = w.heap.push o
  os : w'.os = w.os
  tape : w'.tape = w.tape
  output : w'.output = w.output

theorem Grew.alloc (w : World) (o : Obj) : Grew w o (w.alloc o) := ⟨rfl, rfl, rfl, rfl⟩
theorem Grew.drew (w : World) (o : Obj) : Grew w o (w.drew.alloc o) := ⟨rfl, rfl, rfl, rfl⟩

section
variable {o : Obj} {w' : World}
theorem Grew.old (h : Grew w o w') {g : Nat} (hg : g < w.heap.size) : w'.heap[g]? = w.heap[g]? := by
  rw [h.heap, Array.getElem?_push, if_neg (by omega)]
theorem Grew.new (h : Grew w o w') : w'.heap[w.heap.size]? = some o := by
  rw [h.heap, Array.getElem?_push, if_pos rfl]
theorem Grew.size (h : Grew w o w') : w'.heap.size = w.heap.size + 1 := by rw [h.heap]; simp

theorem Grew.row {cs : Array Value} {e : TypeId} {fr : Nat × Nat} (h : Grew w (.cells cs e fr) w') : rowAt w' w.heap.size 0 cs.toList := by
  intro i hi
  simp only [World.cell?, h.new, Nat.zero_add]
  simp at hi ⊢


theorem Grew.room {cs : Array Value} {e : TypeId} {fr : Nat × Nat} (h : Grew w (.cells cs e fr) w') (hf : fr = (0, 0) ∨ cs.size ≤ fr.1) : room w' w.heap.size cs.size := by
  intro k hk
  simp only [World.cell?, World.frozen?, h.new]
  refine ⟨by simp [hk], ?_⟩
  rcases hf with rfl | hf
  · simp
  · obtain ⟨lo, hi⟩ := fr
    simp only at hf ⊢
    have : ¬ lo ≤ k := by omega
    simp [this]

/-- A new block. -/
theorem Grew.turned (h : Grew w o w') (hp : Hp F μ H nx w) (B : Blk) (hB : B ≠ .dead) : Turned F μ H nx w [] nx (some w.heap.size) B (nx + 1) w' where
  hp := hp
  os := h.os
  tape := h.tape
  output := h.output
  size := by rw [h.size]; omega
  keep := fun g hg _ => h.old hg
  at_ := fun g hg => by cases hg; exact .inr ⟨Nat.le_refl _, by rw [h.size]; omega⟩
  mono := by omega
  lt := by omega
  live := hB
  kind := fun hb => absurd hb (by omega)
  self := fun _ hl => absurd (hp.dead nx (Nat.le_refl _)) hl

end

/-- What else is known of an operation: which blocks it leaves alone. -/
def Fine (P : Program) (ρ : Operand → Value) (op : Op) (w w' : World) : Prop :=
  match op with
  | .alloc _ | .box .. | .buildSlice .. | .makeSlice .. | .range .. => Keep (fun _ => False) w w'
  | .convert src _ _ => P.underlying src = some .string → Keep (fun _ => False) w w'
  | .store _ x _ => ∀ X : Nat → Prop, (∀ g o, ρ x = .pointer (some ⟨g, o, none⟩) → X g) → Keep X w w'
  | _ => True

theorem Fine.new {ρ : Operand → Value} {op : Op} {w w' : World} (h : Keep (fun _ => False) w w') : Fine P ρ op w w' := by
  cases op <;> first | trivial | exact h | exact fun _ => h | exact fun X _ => ⟨h.size, fun g hg _ => h.keep g hg (fun x => x)⟩

theorem Grew.fine {w w' : World} {o : Obj} (h : Grew w o w') {ρ : Operand → Value} {op : Op} : Fine P ρ op w w' :=
  .new ⟨by rw [h.size]; omega, fun g hg _ => h.old hg⟩

/-- What an operation that makes or writes memory comes to. -/
def EffOK (P : Program) {T : Tb} (F : Frm T) (μ : Nat → Option Nat) (S : St) (w : World) (ρ : Operand → Value) (op : Op) {α : Type} (K : AV → St → Option α) (r : α) : Prop :=
  ∃ v S' μ' w' kl, K v S' = some r ∧ S'.E = killsE kl S.E ∧ S'.kl = S.kl ++ kl ∧ Hp F μ' S'.H S'.nx w' ∧ Pl F μ S.H S.nx w kl μ' S'.H S'.nx w' ∧
    ∃ val, (∀ o : Oper, o.op = op → (execOp ρ o).run P w = .ok (.value val) w' ∨ ((execOp ρ o).run P w = .ok .skip w' ∧ val = undef)) ∧ RelV w' (Not F μ' S'.H) μ' S'.H v val ∧ Fine P ρ op w w'

theorem dropBlks_eq : ∀ (l : List Nat) (H : Nat → Blk) (b : Nat), dropBlks l H b = if b ∈ l then .dead else H b
  | [], H, b => by simp [dropBlks]
  | c :: l, H, b => by
    simp only [dropBlks]
    by_cases h : b = c
    · subst h; rw [updH_same]; simp
    · rw [updH_other h, dropBlks_eq l H b]
      simp [h]

/-! Blocks that are let go. -/
theorem Keep.refl {X : Nat → Prop} (w : World) : Keep X w w := ⟨Nat.le_refl _, fun _ _ _ => rfl⟩
theorem hasN_mem {ks : List Nat} {b : Nat} : hasN ks b = true ↔ b ∈ ks := by
  unfold hasN
  rw [List.any_eq_true]
  constructor
  · rintro ⟨x, hx, h⟩
    rw [Nat.eq_of_beq_eq_true h]; exact hx
  · exact fun h => ⟨b, h, Nat.beq_refl b⟩

section
variable {S : St} {ks : List Nat}

theorem seal_H (S : St) (ks : List Nat) (b : Nat) : (S.seal ks).H b = if b ∈ ks then .dead else kb ks (S.H b) := by
  show dropBlks ks (killsH ks S.H) b = _
  rw [dropBlks_eq, killsH_eq]

theorem seal_in {b : Nat} (h : b ∈ ks) : (S.seal ks).H b = .dead := by rw [seal_H, if_pos h]

theorem seal_out {b : Nat} (h : b ∉ ks) : (S.seal ks).H b = kb ks (S.H b) := by rw [seal_H, if_neg h]

theorem seal_live {b : Nat} (h : (S.seal ks).H b ≠ .dead) : S.H b ≠ .dead ∧ b ∉ ks := by
  by_cases hb : b ∈ ks
  · exact absurd (seal_in hb) h
  · refine ⟨fun e => h ?_, hb⟩
    rw [seal_out hb, e, kb_dead]

theorem seal_notN {g : Nat} (h : Not F μ (S.seal ks).H g) : Not F μ S.H g := h.elim .inl fun ⟨b, hl, hm⟩ => .inr ⟨b, (seal_live hl).1, hm⟩

theorem seal_compat (b : Nat) (hk : hasN ks b = false) (_hl : S.H b ≠ .dead) : Compat w w μ μ S.H (S.seal ks).H b := by
  have hb : b ∉ ks := fun h => by rw [hasN_mem.2 h] at hk; cases hk
  refine ⟨rfl, ?_⟩
  rw [seal_out hb]
  cases hB : S.H b with
  | dead => trivial
  | data t l => exact ⟨⟨l, by rw [kb_data], rfl⟩, fun g n _ hr => hr⟩
  | vars cs => rw [kb_vars]; simp
  | iter s p => rw [kb_iter]; simp
  | mapd kt vt ag l => rw [kb_mapd]; simp

theorem seal_hp (hp : Hp F μ S.H S.nx w) : Hp F μ (S.seal ks).H S.nx w where
  blk := fun b => by
    by_cases hb : b ∈ ks
    · rw [seal_in hb]; simp [RelB]
    · rw [seal_out hb]
      have hB := hp.blk b
      cases hv : S.H b with
      | dead => rw [kb_dead]; simp [RelB]
      | vars cs =>
        rw [kb_vars]
        simp only [hv, RelB] at hB ⊢
        rcases hB with hB | ⟨g, vs, h1, h2, h3, h4⟩
        · exact .inl hB
        exact .inr ⟨g, vs, h1, RelVs_kL (Keep.refl w) (fun _ _ h => seal_notN h) seal_compat _ _ h2, h3, h4⟩
      | data t l =>
        rw [kb_data]
        simp only [hv, RelB] at hB ⊢
        rcases hB with hB | ⟨g, h1, h2, h3⟩
        · exact .inl hB
        · refine .inr ⟨g, h1, h2, fun i hi => ?_⟩
          obtain ⟨es, e1, e2, e3⟩ := h3 i hi
          exact ⟨es, e1, e2, e3.keep (Keep.refl w) fun _ _ h => seal_notN h⟩
      | iter s p =>
        rw [kb_iter]
        simp only [hv, RelB] at hB ⊢
        exact hB
      | mapd kt vt ag l =>
        rw [kb_mapd]
        simp only [hv, RelB] at hB ⊢
        rcases hB with hB | ⟨g, es, c, h1, h2, h3, h4⟩
        · exact .inl hB
        exact .inr ⟨g, es, c, h1, h2, h3, h4.keep (Keep.refl w) fun _ _ h => seal_notN h⟩
  lt := fun b g hl hg => hp.lt b g (seal_live hl).1 hg
  inj := fun b b' g hl hl' hg hg' => hp.inj b b' g (seal_live hl).1 (seal_live hl').1 hg hg'
  dead := fun b hb => by
    by_cases hk : b ∈ ks
    · exact seal_in hk
    · rw [seal_out hk, hp.dead b hb, kb_dead]
  apart := fun b g hl hg => hp.apart b g (seal_live hl).1 hg
  flt := hp.flt
  tab := hp.tab
  tapart := fun b g hl hg => hp.tapart b g (seal_live hl).1 hg

theorem seal_pl : Pl F μ S.H S.nx w ks μ (S.seal ks).H S.nx w where
  chg := Chg.refl w
  new := fun g ⟨b, hl, hm⟩ => .inl ⟨b, (seal_live hl).1, hm⟩
  mono := Nat.le_refl _
  tr := fun x v hx => RelV_kv (Keep.refl w) (fun _ _ h => seal_notN h) seal_compat x v hx
  pin := fun b _ => by
    by_cases hb : b ∈ ks
    · rw [seal_in hb]; exact Pin.zero rfl
    · rw [seal_out hb]
      exact fun _ => ⟨(tag_kb ks _).symm, rfl⟩

mutual
theorem sealV_ok (hp : Hp F μ S.H S.nx w) : ∀ (x : AV) (v : Value), RelV w (Not F μ S.H) μ S.H x v → RelV w (Not F μ (S.seal ks).H) μ (S.seal ks).H (sealV S.H ks x) v
  | .wh b, v, hx => by
    simp only [sealV]
    cases hk : hasN ks b with
    | true =>
      have hb := hasN_mem.1 hk
      simp only [cond_true]
      simp only [RelV] at hx
      obtain ⟨t, l, hB, hx⟩ := hx
      simp only [hB]
      rcases hx with ⟨g, c, hm, rfl, hc, hr⟩ | ⟨_, rfl, rfl⟩
      · simp only [RelV, RelD]
        refine ⟨some ⟨g, 0, none⟩, c, rfl, hc, fun hp0 => ?_⟩
        have hlive : S.H b ≠ .dead := by rw [hB]; simp
        have hrow := hp.blk b
        simp only [hB, RelB] at hrow
        rcases hrow with ⟨hn, _⟩ | ⟨g', hm', _, hrows⟩
        · rw [hm] at hn; cases hn
        · rw [hm] at hm'
          cases hm'
          refine ⟨g, 0, rfl, fun hN => ?_, hp.lt b g hlive hm, fun i hi => ?_⟩
          · rcases hN with hF | ⟨b', hl', hm'⟩
            · exact hp.apart b g hlive hm hF
            · obtain ⟨h1, h2⟩ := seal_live hl'
              have := hp.inj b b' g hlive h1 hm hm'
              subst this
              exact h2 hb
          · obtain ⟨es, e1, e2, e3⟩ := hrows i hi
            exact ⟨es, e1, by rw [Nat.zero_add]; exact e2, e3.keep (Keep.refl w) fun _ _ h => seal_notN h⟩
      · simp only [RelV, RelD]
        exact ⟨none, 0, rfl, Nat.le_refl _, fun h => absurd h (by simp)⟩
    | false =>
      simp only [cond_false]
      have := RelV_kill (kl := ks) (N' := Not F μ (S.seal ks).H) (Keep.refl w) (fun _ _ h => seal_notN h) seal_compat (.wh b) v hx
      simpa only [killV, hk, cond_false] using this
  | .agg cs, v, hx => by
    simp only [sealV, RelV] at hx ⊢
    obtain ⟨vs, h1, h2⟩ := hx
    exact ⟨vs, h1, sealL_ok hp cs vs h2⟩
  | .i k n, v, hx => hx
  | .u x, v, hx => hx
  | .b x, v, hx => hx
  | .kb x, v, hx => hx
  | .s x, v, hx => hx
  | .c u, v, hx => hx
  | .bad, v, hx => hx
  | .gd _ _ _, v, hx => by simp [sealV, killV, RelV]
  | .sl t l, v, hx => RelV_kill (kl := ks) (Keep.refl w) (fun _ _ h => seal_notN (F := F) h) seal_compat (.sl t l) v hx
  | .fp t l i f, v, hx => RelV_kill (kl := ks) (Keep.refl w) (fun _ _ h => seal_notN (F := F) h) seal_compat (.fp t l i f) v hx
  | .ptr b o, v, hx => RelV_kill (kl := ks) (Keep.refl w) (fun _ _ h => seal_notN (F := F) h) seal_compat (.ptr b o) v hx
  | .ep b t i f, v, hx => RelV_kill (kl := ks) (Keep.refl w) (fun _ _ h => seal_notN (F := F) h) seal_compat (.ep b t i f) v hx
  | .win b lo n, v, hx => RelV_kill (kl := ks) (Keep.refl w) (fun _ _ h => seal_notN (F := F) h) seal_compat (.win b lo n) v hx
  | .mptr c b o, v, hx => RelV_kill (kl := ks) (Keep.refl w) (fun _ _ h => seal_notN (F := F) h) seal_compat (.mptr c b o) v hx
  | .mp b, v, hx => RelV_kill (kl := ks) (Keep.refl w) (fun _ _ h => seal_notN (F := F) h) seal_compat (.mp b) v hx
  | .fn f cs, v, hx => RelV_kill (kl := ks) (Keep.refl w) (fun _ _ h => seal_notN (F := F) h) seal_compat (.fn f cs) v hx
  | .tup cs, v, hx => RelV_kill (kl := ks) (Keep.refl w) (fun _ _ h => seal_notN (F := F) h) seal_compat (.tup cs) v hx
  | .ifc t x, v, hx => RelV_kill (kl := ks) (Keep.refl w) (fun _ _ h => seal_notN (F := F) h) seal_compat (.ifc t x) v hx
  | .pan x, v, hx => RelV_kill (kl := ks) (Keep.refl w) (fun _ _ h => seal_notN (F := F) h) seal_compat (.pan x) v hx
theorem sealL_ok (hp : Hp F μ S.H S.nx w) : ∀ (xs : List AV) (vs : List Value), RelVs w (Not F μ S.H) μ S.H xs vs → RelVs w (Not F μ (S.seal ks).H) μ (S.seal ks).H (sealL S.H ks xs) vs
  | [], vs, hx => by simpa only [sealL, RelVs] using hx
  | x :: xs, vs, hx => by
    simp only [sealL, RelVs] at hx ⊢
    obtain ⟨v, vr, rfl, h1, h2⟩ := hx
    exact ⟨v, vr, rfl, sealV_ok hp x v h1, sealL_ok hp xs vr h2⟩
end

theorem sealV_ng (H : Nat → Blk) (ks : List Nat) (x : AV) : noGd (sealV H ks x) = sealV H ks x := by
  cases x
  case wh b =>
    simp only [sealV]
    cases hasN ks b
    · rfl
    · simp only [cond_true]
      cases H b <;> rfl
  all_goals simp only [sealV, killV]
  all_goals first
    | rfl
    | (cases hasN ks _ <;> rfl)

theorem seal_rel (hp : Hp F μ S.H S.nx w) {ρ : Operand → Value} {ρA : Operand → AV} (hρ : ∀ x, RelG w (Not F μ S.H) μ S.H ρ (ρA x) (ρ x)) (x : Operand) :
    RelG w (Not F μ (S.seal ks).H) μ (S.seal ks).H ρ (sealV S.H ks (ρA x)) (ρ x) := RelG_of (sealV_ng _ _ _) (sealV_ok hp _ _ (hρ x).rel)

theorem EffOK.unseal {ρ : Operand → Value} {op : Op} {K : AV → St → Option α} (h : EffOK P F μ (S.seal ks) w ρ op K r) : EffOK P F μ S w ρ op K r := by
  obtain ⟨v, S', μ', w', kl, h1, h2, h3, h4, h5, h6⟩ := h
  refine ⟨v, S', μ', w', ks ++ kl, h1, ?_, ?_, h4, seal_pl.trans h5, h6⟩
  · rw [h2]
    funext t
    simp only [St.seal, killsE_eq, kv_kv]
  · rw [h3]
    simp only [St.seal, List.append_assoc]

/-- An operation that lets blocks go first. -/
theorem sealing_ok (hp : Hp F μ S.H S.nx w) {ρ : Operand → Value} {ρA : Operand → AV} {op : Op} {K : AV → St → Option α} (hρ : ∀ x, RelG w (Not F μ S.H) μ S.H ρ (ρA x) (ρ x)) {f : (Operand → AV) → St → Option α} (h : sealing ρA S ks f = some r)
    (hf : ∀ (S : St) (ρA : Operand → AV), Hp F μ S.H S.nx w → (∀ x, RelG w (Not F μ S.H) μ S.H ρ (ρA x) (ρ x)) → f ρA S = some r → EffOK P F μ S w ρ op K r) : EffOK P F μ S w ρ op K r := by
  unfold sealing at h
  split at h
  · exact hf S ρA hp hρ h
  · exact (hf _ _ (seal_hp hp) (seal_rel hp hρ) h).unseal

end

/-- A new block of variables. -/
theorem eff_vars {S : St} {ρ : Operand → Value} {op : Op} {K : AV → St → Option α} {cs : List AV} {vs : List Value} {e : TypeId} {w' : World} (hp : Hp F μ S.H S.nx w)
    (hr : RelVs w (Not F μ S.H) μ S.H cs vs) (hg : Grew w (.cells vs.toArray e) w')
    (hK : K (.ptr S.nx 0) ⟨S.E, updH S.H S.nx (.vars cs), S.nx + 1, S.kl⟩ = some r)
    (hrun : ∀ o : Oper, o.op = op → (execOp ρ o).run P w = .ok (.value (.pointer (some ⟨w.heap.size, 0, none⟩))) w') : EffOK P F μ S w ρ op K r := by
  have T := hg.turned hp (.vars cs) (by simp)
  have hrow := hg.row
  have hroom := hg.room (.inl rfl)
  have hp' := T.hp' (by
    simp only [RelB]
    refine .inr ⟨w.heap.size, vs, updM_same _ _ _, T.trs cs vs hr, by simpa using hrow, by simpa using hroom⟩)
  refine ⟨_, _, updM μ S.nx (some w.heap.size), w', [], hK, rfl, by simp, hp', T.pl, .pointer (some ⟨w.heap.size, 0, none⟩), fun o ho => .inl (hrun o ho), ?_⟩
  simp only [RelV, updM_same, updH_same]
  exact ⟨⟨by simp, _, rfl, rfl⟩, hg.fine⟩

/-- Rows of data in a new block. -/
theorem rows_new {t : Ty} {l : List t.den} {cs : List Value} {w' : World} {g : Nat} (hrow : rowAt w' g 0 cs)
    (hd : ∀ i, (h : i < l.length) → i * t.size + t.size ≤ cs.length ∧ RelD w' N t l[i] ((cs.drop (i * t.size)).take t.size)) :
    ∀ i, (h : i < l.length) → ∃ es, es.length = t.size ∧ rowAt w' g (i * t.size) es ∧ RelD w' N t l[i] es := by
  intro i hi
  obtain ⟨h1, h2⟩ := hd i hi
  refine ⟨_, by simp; omega, ?_, h2⟩
  have := rowAt_sub hrow (i * t.size) t.size
  simpa using this

/-- A new block of data: whole slice. -/
theorem eff_data {S : St} {ρ : Operand → Value} {op : Op} {K : AV → St → Option α} {t : Ty} {l : List t.den} {cs : List Value} {e : TypeId} {fr : Nat × Nat} {c : Nat} {w' : World} (hp : Hp F μ S.H S.nx w)
    (hg : Grew w (.cells cs.toArray e fr) w') (hf : fr = (0, 0) ∨ cs.length ≤ fr.1) (hc : l.length ≤ c) (hcs : c * t.size = cs.length)
    (hd : ∀ i, (h : i < l.length) → RelD w (Not F μ S.H) t l[i] ((cs.drop (i * t.size)).take t.size))
    (hK : K (.wh S.nx) ⟨S.E, updH S.H S.nx (.data t l), S.nx + 1, S.kl⟩ = some r)
    (hrun : ∀ o : Oper, o.op = op → (execOp ρ o).run P w = .ok (.value (.slice (some ⟨w.heap.size, 0, none⟩) l.length c)) w') : EffOK P F μ S w ρ op K r := by
  have T := hg.turned hp (.data t l) (by simp)
  have hrow := hg.row
  have hroom := hg.room (by simpa using hf)
  simp only [List.size_toArray] at hroom
  have hle : ∀ k, k ≤ c → k * t.size ≤ cs.length := fun k hk => by rw [← hcs]; exact Nat.mul_le_mul_right _ hk
  have hp' := T.hp' (by
    simp only [RelB]
    refine .inr ⟨w.heap.size, updM_same _ _ _, fun k hk => hroom k (Nat.lt_of_lt_of_le hk (hle _ hc)), rows_new (by simpa using hrow) fun i hi => ⟨?_, (hd i hi).keep T.keepN T.notN⟩⟩
    have := hle (i + 1) (by omega)
    rw [Nat.add_mul] at this
    omega)
  refine ⟨_, _, updM μ S.nx (some w.heap.size), w', [], hK, rfl, by simp, hp', T.pl, .slice (some ⟨w.heap.size, 0, none⟩) l.length c, fun o ho => .inl (hrun o ho), ?_⟩
  simp only [RelV]
  refine ⟨⟨t, l, updH_same _ _ _, .inl ⟨w.heap.size, c, updM_same _ _ _, rfl, hc, ?_⟩⟩, hg.fine⟩
  rw [hcs]; exact hroom

end
end Go.Ev
