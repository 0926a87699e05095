/- One operation of a region. -/
import Derived.Test.YtnhjmcedpcpdoaaDoorEvH
import Derived.Test.YtnhjmcedpcpdoaaDoorEvGm
import Derived.Test.YtnhjmcedpcpdoaaDoorEvTb
namespace Go.Ev
open Go
section
variable {P : Program} {F : Frm (tabsOf P)} {μ μ' : Nat → Option Nat} {S S' : St} {w w' : World} {a a' : Act} {done : List Nat} {α : Type} {r : α} {M : FuncId → Bool}

/-- In the midst of a region: the guards that values stand under are among the slots already written in it. -/
structure Rg {T : Tb} (F : Frm T) (μ : Nat → Option Nat) (done : List Nat) (S : St) (a : Act) (w : World) : Prop where
  hp : Hp F μ S.H S.nx w
  e : RelE w (Not F μ S.H) μ S.H S.E a.tmps
  tags : ∀ t j b x, S.E t = .gd j b x → j ∈ done

theorem getD_set {tmps : Array Value} {d t : Nat} {v : Value} (hd : d < tmps.size) : (tmps.setIfInBounds d v).getD t undef = if t = d then v else tmps.getD t undef := by
  rw [Array.getD_eq_getD_getElem?, Array.getD_eq_getD_getElem?, Array.getElem?_setIfInBounds]
  by_cases h : t = d
  · subst h; simp [hd]
  · have : ¬ d = t := fun e => h e.symm
    simp [h, this]

theorem noGd_ne (v : AV) : ∀ j b y, noGd v ≠ .gd j b y := by cases v <;> simp [noGd]

theorem noGd_rel {N : Nat → Prop} {H : Nat → Blk} {v : AV} {val : Value} (h : RelV w N μ H v val) : RelV w N μ H (noGd v) val := by
  cases v <;> first | exact h | simp [noGd, RelV]

theorem RelE.slot {N : Nat → Prop} {H : Nat → Blk} {E : Nat → AV} {tmps : Array Value} {t : Nat} (h : RelE w N μ H E tmps) (hn : ∀ j b y, E t ≠ .gd j b y) : RelV w N μ H (E t) (tmps.getD t undef) := by
  have := h t
  cases hE : E t <;> simp only [hE] at this <;> first | exact this | exact absurd hE (hn _ _ _)

theorem RelE.of_slot {N : Nat → Prop} {H : Nat → Blk} {E : Nat → AV} {tmps : Array Value} {t : Nat} {x : AV} (hE : E t = x) (hn : ∀ j b y, x ≠ .gd j b y) (hx : RelV w N μ H x (tmps.getD t undef)) :
    (match E t with
    | .gd j b x => (tmps.getD j undef = .bool b ∧ RelV w N μ H x (tmps.getD t undef)) ∨ (tmps.getD j undef ≠ .bool b ∧ tmps.getD t undef = undef)
    | x => RelV w N μ H x (tmps.getD t undef)) := by
  rw [hE]
  cases x <;> first | exact hx | exact absurd rfl (hn _ _ _)

/-- A slot is written: the others stay. -/
theorem RelE.put {N : Nat → Prop} {H : Nat → Blk} {E : Nat → AV} {tmps : Array Value} (h : RelE w N μ H E tmps) (tags : ∀ t j b x, E t = .gd j b x → j ∈ done) {d : Nat} (hd : d < tmps.size) (hnd : d ∉ done) {v : AV} {val : Value}
    (hv : match v with
      | .gd j b x => (j ∈ done) ∧ ((tmps.getD j undef = .bool b ∧ RelV w N μ H x val) ∨ (tmps.getD j undef ≠ .bool b ∧ val = undef))
      | x => RelV w N μ H x val) : RelE w N μ H (upd E d v) (tmps.setIfInBounds d val) := by
  intro t
  by_cases ht : t = d
  · subst ht
    rw [upd_same]
    have g : (tmps.setIfInBounds t val).getD t undef = val := by rw [getD_set hd]; simp
    cases v <;> simp only at hv ⊢ <;> rw [g]
    case gd j b x =>
      obtain ⟨hj, hv⟩ := hv
      have hjt : j ≠ t := fun e => hnd (e ▸ hj)
      have g2 : (tmps.setIfInBounds t val).getD j undef = tmps.getD j undef := by rw [getD_set hd]; simp [hjt]
      rw [g2]; exact hv
    all_goals exact hv
  · rw [upd_other ht]
    have g : (tmps.setIfInBounds d val).getD t undef = tmps.getD t undef := by rw [getD_set hd]; simp [ht]
    have h1 := h t
    cases hE : E t <;> simp only [hE] at h1 ⊢ <;> rw [g]
    case gd j b x =>
      have hj := tags t j b x hE
      have hjd : j ≠ d := fun e => hnd (e ▸ hj)
      have g2 : (tmps.setIfInBounds d val).getD j undef = tmps.getD j undef := by rw [getD_set hd]; simp [hjd]
      rw [g2]; exact h1
    all_goals exact h1

def dstL (o : Oper) : List Nat := o.dst.toList

theorem Rg.put (h : Rg F μ done S a w) {dst : Option Nat} (hd : ∀ d, dst = some d → d < a.tmps.size ∧ d ∉ done) {v : AV} {val : Value}
    (hv : match v with
      | .gd j b x => (j ∈ done) ∧ ((a.tmps.getD j undef = .bool b ∧ RelV w (Not F μ S.H) μ S.H x val) ∨ (a.tmps.getD j undef ≠ .bool b ∧ val = undef))
      | x => RelV w (Not F μ S.H) μ S.H x val) : Rg F μ (dst.toList ++ done) (S.put dst v) (a.put dst val) w := by
  cases dst with
  | none => exact ⟨h.hp, h.e, fun t j b x hE => by simpa using h.tags t j b x hE⟩
  | some d =>
    obtain ⟨h1, h2⟩ := hd d rfl
    refine ⟨h.hp, h.e.put h.tags h1 h2 hv, fun t j b x hE => ?_⟩
    simp only [St.put] at hE
    by_cases ht : t = d
    · subst ht
      rw [upd_same] at hE
      subst hE
      simp only at hv
      simp [hv.1]
    · rw [upd_other ht] at hE
      simp [h.tags t j b x hE]

theorem Rg.put' (h : Rg F μ done S a w) {dst : Option Nat} (hd : ∀ d, dst = some d → d < a.tmps.size ∧ d ∉ done) {v : AV} {val : Value} (hv : RelV w (Not F μ S.H) μ S.H v val) :
    Rg F μ (dst.toList ++ done) (S.put dst (noGd v)) (a.put dst val) w := by
  refine h.put hd ?_
  have := noGd_rel hv
  cases hg : noGd v <;> simp only [hg] at this ⊢ <;> first | exact this | exact absurd hg (noGd_ne v _ _ _)

/-- Which slot a guard looks at, and what it says. -/
theorem wanted_iff {o : Oper} {ops : Array Oper} {g j : Nat} {b : Bool} (ho : o.guard = some (g, b)) (hj : slotOf ops g = some j) : Region.wanted o (yielded ops a.tmps) = true ↔ a.tmps.getD j undef = .bool b := by
  unfold slotOf at hj
  simp only [Region.wanted, ho, yielded, hj, Option.bind_some, Array.getD_eq_getD_getElem?]
  cases hv : a.tmps[j]? with
  | none => simp [undef]
  | some v => cases v <;> simp

/-- The operands, under a guard that holds. -/
theorem unG_ok {N : Nat → Prop} {H : Nat → Blk} {E : Nat → AV} (hE : RelE w N μ H E a.tmps) {j : Nat} {b : Bool} (hj : a.tmps.getD j undef = .bool b) (x : Operand) : RelG w N μ H a.eval (unG j b (opd E x)) (a.eval x) := by
  have h := opd_ok hE x
  cases hx : opd E x <;> rw [hx] at h <;> simp only [unG] <;> try exact h
  rename_i j' b' y
  by_cases hc : j' = j ∧ b' = b
  · obtain ⟨rfl, rfl⟩ := hc
    simp only [Nat.beq_refl, BEq.rfl, Bool.and_self, cond_true]
    exact RelG_of (by cases y <;> rfl) (noGd_rel (h hj))
  · have : (Nat.beq j' j && b' == b) = false := by
      rw [Bool.and_eq_false_iff]
      by_cases h1 : j' = j
      · right; simp; exact fun h2 => hc ⟨h1, h2⟩
      · left; exact Bool.eq_false_iff.2 fun h => h1 (Nat.eq_of_beq_eq_true h)
    simp only [this, cond_false]
    exact h


/-- What comes behind one operation. -/
structure Post {T : Tb} (F : Frm T) (μ : Nat → Option Nat) (S : St) (w : World) (a : Act) (done : List Nat) (S' : St) (w' : World) (a' : Act) : Prop where
  step : ∃ μ' kl, S'.kl = S.kl ++ kl ∧ Pl F μ S.H S.nx w kl μ' S'.H S'.nx w' ∧ Rg F μ' done S' a' w'
  size : a'.tmps.size = a.tmps.size
  defers : a'.defers = a.defers

theorem Act.put_size (a : Act) (d : Option Nat) (v : Value) : (a.put d v).tmps.size = a.tmps.size := by cases d <;> simp [Act.put]
theorem Act.put_defers' (a : Act) (d : Option Nat) (v : Value) : (a.put d v).defers = a.defers := by cases d <;> simp [Act.put]

theorem need_some {side : Bool} {x : Option α} (h : need side x = some r) : side = true ∧ x = some r := cond_some h

/-- How a call ends. -/
def EndR (e : Ending) (v : AV) (val : Value) : Prop :=
  match v with
  | .pan _ => e = .panicked [{ v := val, recovered := false }]
  | _ => e = .returned val

theorem EndR.ret {e : Ending} {v : AV} {val : Value} (h : noPan v = true) : EndR e v val ↔ e = .returned val := by
  cases v <;> first | rfl | (simp [noPan] at h)

/-- Behind a panic. -/
structure PPost {T : Tb} (F : Frm T) (μ : Nat → Option Nat) (H : Nat → Blk) (nx : Nat) (kl0 : List Nat) (w : World) (a : Act) (x : AV) (S' : St) (w' : World) (a' : Act) (val : Value) : Prop where
  step : ∃ μ' kl, S'.kl = kl0 ++ kl ∧ Pl F μ H nx w kl μ' S'.H S'.nx w' ∧ Hp F μ' S'.H S'.nx w' ∧ RelV w' (Not F μ' S'.H) μ' S'.H x val
  defers : a'.defers = a.defers

/-- What calls mean, made good. -/
def CallOK (P : Program) (C : Calling) (M : FuncId → Bool) : Prop := ∀ (f : FuncId) (args : List AV) (S : St) (α : Type) (K : AV → St → Option α) (r : α), C f args S K = some r →
  ∀ (F : Frm (tabsOf P)) μ w vals, Hp F μ S.H S.nx w → RelVs w (Not F μ S.H) μ S.H args vals →
    ((∀ w1, (callFunc f vals.toArray).run P w1 = .ok (.enter f vals.toArray) w1) ∧
    Calls P f vals.toArray w (fun e w' => ∃ v S' μ' kl val, EndR e v val ∧ K v S' = some r ∧ S'.E = killsE kl S.E ∧ S'.kl = S.kl ++ kl ∧ Hp F μ' S'.H S'.nx w' ∧
      Pl F μ S.H S.nx w kl μ' S'.H S'.nx w' ∧ RelV w' (Not F μ' S'.H) μ' S'.H v val ∧ (M f = true → Keep (fun _ => False) w w'))) ∨
    ∃ v val, noPan v = true ∧ K v S = some r ∧ RelV w (Not F μ S.H) μ S.H v val ∧ ∀ w1, (callFunc f vals.toArray).run P w1 = .ok (.value val) w1

/-- What else is known of the step of an operation. -/
structure Sure (P : Program) (M : FuncId → Bool) (o : Oper) (a a' : Act) (w w' : World) : Prop where
  fine : Fine P a.eval o.op w w'
  call : ∀ f args ts, o.op = .call ⟨.value (.func f), args, ts⟩ → M f = true → Keep (fun _ => False) w w'
  put : ∃ val, a' = a.put o.dst val

theorem Fine.refl {ρ : Operand → Value} {op : Op} (w : World) : Fine P ρ op w w := .new (Keep.refl w)
theorem Sure.skip {M : FuncId → Bool} {o : Oper} {a : Act} {v : Value} (w : World) : Sure P M o a (a.put o.dst v) w w := ⟨.refl w, fun _ _ _ _ _ => Keep.refl w, v, rfl⟩

theorem cond_gd {q : Bool} {y x : AV} {j : Nat} {b : Bool} (h : cond q .bad y = .gd j b x) : y = .gd j b x := by cases q <;> simp_all

theorem tags_kill {E : Nat → AV} {kl : List Nat} (tags : ∀ t j b x, E t = .gd j b x → j ∈ done) : ∀ t j b x, killsE kl E t = .gd j b x → j ∈ done := by
  intro t j b x h
  rw [killsE_eq] at h
  cases kl with
  | nil => exact tags t j b x h
  | cons c r =>
    simp only [kv] at h
    cases hE : E t <;> rw [hE] at h <;> simp only [killV, reduceCtorEq] at h
    all_goals (have := cond_gd h; cases this)

theorem Pl.refl (hp : Hp F μ S.H S.nx w) : Pl F μ S.H S.nx w [] μ S.H S.nx w := Pl.keep hp (Chg.refl w)

/-- A value operation, outright. -/
theorem run_val {X : Nat → Nat → Prop} {o : Oper} {ρA : Operand → AV} {K : St → Option α} (hr : Rg F μ done S a w) (hρ : ∀ x, RelG w (Not F μ S.H) μ S.H a.eval (ρA x) (a.eval x))
    (hd : ∀ d, o.dst = some d → d < a.tmps.size ∧ d ∉ done) (hX : FreeOp P X a.eval o.op) (h : (evVal P o.op ρA S.H fun side v => need side (K (S.put o.dst (noGd v)))) = some r) :
    ∃ v val, K (S.put o.dst v) = some r ∧ Rg F μ (dstL o ++ done) (S.put o.dst v) (a.put o.dst val) w ∧ ∀ w', Agr X w w' → (execOp a.eval o).run P w' = .ok (.value val) w' := by
  obtain ⟨side, v, hK, hs⟩ := evVal_ok (X := X) hr.hp hρ (fun _ => rfl) hX h
  obtain ⟨h1, h2⟩ := need_some hK
  obtain ⟨val, hv, hy⟩ := hs h1
  exact ⟨_, val, h2, hr.put' hd hv, hy o rfl⟩

theorem eff_run {o : Oper} {K : St → Option α} {next : Act → World → Prop} {Q : Exit → Act → World → Prop} (hr : Rg F μ done S a w)
    (hd : ∀ d, o.dst = some d → d < a.tmps.size ∧ d ∉ done) (h : EffOK P F μ S w a.eval o.op (fun v S' => K (S'.put o.dst (noGd v))) r)
    (hncall : ∀ f args ts, o.op ≠ .call ⟨.value (.func f), args, ts⟩)
    (hn : ∀ S' w' a', K S' = some r → Post F μ S w a (dstL o ++ done) S' w' a' → Sure P M o a a' w w' → next a' w') : o.wp P a w next Q := by
  obtain ⟨v, S', μ', w', kl, hK, hE, hkl, hp', hpl, val, hrun, hv, hfine⟩ := h
  have hsure : Sure P M o a (a.put o.dst val) w w' := ⟨hfine, fun f args ts he => absurd he (hncall f args ts), val, rfl⟩
  have hrg : Rg F μ' done S' a w' := ⟨hp', by rw [hE]; exact hr.e.kill hpl.tr, by rw [hE]; exact tags_kill hr.tags⟩
  have post : Post F μ S w a (dstL o ++ done) (S'.put o.dst (noGd v)) w' (a.put o.dst val) := by
    refine ⟨⟨μ', kl, ?_, ?_, hrg.put' hd hv⟩, Act.put_size _ _ _, Act.put_defers' _ _ _⟩
    · cases o.dst <;> exact hkl
    · cases o.dst <;> exact hpl
  unfold Oper.wp
  rcases hrun o rfl with h1 | ⟨h1, rfl⟩
  · rw [h1]; exact hn _ _ _ hK post hsure
  · rw [h1]; exact hn _ _ _ hK post hsure


theorem noInt_ok {ts : List TypeId} (h : evEff.noInt P ts = true) : ∃ t d, ts = [t] ∧ P.underlying t = some d ∧ (d = .string ∨ ∃ e, d = .slice e) := by
  unfold evEff.noInt at h
  split at h
  · rename_i t
    cases hu : P.underlying t with
    | none => simp [hu] at h
    | some d =>
      simp only [hu] at h
      cases d <;> simp only [Bool.false_eq_true] at h
      · exact ⟨t, _, rfl, hu, .inl rfl⟩
      · exact ⟨t, _, rfl, hu, .inr ⟨_, rfl⟩⟩
  · cases h

theorem dec_some {t : Ty} {x y : t.den} (h : some x = some y) : x = y := by cases h; rfl

theorem eff_append (hp : Hp F μ S.H S.nx w) {ρ : Operand → Value} {ρA : Operand → AV} {K : AV → St → Option α} (hρ : ∀ x, RelG w (Not F μ S.H) μ S.H ρ (ρA x) (ρ x)) {C : Calling} {args : Array Operand} {argTypes : Array TypeId}
    (h : evEff P C (.call ⟨.builtin .append, args, argTypes⟩) ρA S K = some r) : EffOK P F μ S w ρ (.call ⟨.builtin .append, args, argTypes⟩) K r := by
  simp only [evEff] at h
  split at h
  · rename_i sO xO t ts ha ht
    have ha' : args = #[sO, xO] := by apply Array.ext'; simpa using ha
    cases he : elemTy P t with
    | none => simp [he] at h
    | some q =>
      obtain ⟨e, y⟩ := q
      simp only [he] at h
      have hu := elemTy_und he
      obtain ⟨h1, h2⟩ := cond_some h
      simp only [Bool.and_eq_true] at h1
      obtain ⟨⟨⟨hs, hni⟩, hb1⟩, hz⟩ := h1
      obtain ⟨t2, d2, hts, hu2, hd2⟩ := noInt_ok hni
      subst hts
      have ht' : argTypes = #[t, t2] := by apply Array.ext'; simpa using ht
      subst ha'; subst ht'
      obtain ⟨i, hi, hsz⟩ := szOK_info hs
      have hby : P.bytesOf e = i.bytes := by simp [Program.bytesOf, hi]
      rw [hby] at hb1
      have hb1' : 1 ≤ i.bytes := Nat.le_of_ble_eq_true hb1
      obtain ⟨z, hzz, hzs⟩ : ∃ z, i.zero = some z ∧ z.cells.size = y.size := by
        unfold zeroSz at hz
        simp only [hi] at hz
        cases hzz : i.zero with
        | none => simp [hzz] at hz
        | some z => simp only [hzz] at hz; exact ⟨z, rfl, Nat.eq_of_beq_eq_true hz⟩
      obtain ⟨xs, h3, news, src⟩ := itemsOrStr_ok (P := P) hp (hρ xO).rel h2
      have hop : ∀ o : Oper, o.op = .call ⟨.builtin .append, #[sO, xO], #[t, t2]⟩ → (execOp ρ o).run P w = ((Builtin.append_ #[t, t2] o.type #[ρ sO, ρ xO]).run P w).andThen fun v w' => .ok (.value v) w' := fun o ho => by
        simp [execOp, ho, resolve, invoke, builtin]
      have hsO := (hρ sO).rel
      cases hsv : ρA sO <;> simp only [hsv, reduceCtorEq] at h3 hsO
      case c u =>
        simp only [RelV] at hsO
        split at h3
        all_goals first
          | (cases h3; done)
          | (rename_i heq; cases heq; done)
          | skip
        all_goals
          rename_i heq
          cases heq
          obtain ⟨h4, hK⟩ := need_some h3
          have h4' : xs.length * i.bytes ≤ 140737488355328 := by simpa [bytesOK, hby] using h4
          refine eff_append_core (b := S.nx) (kl := []) (nx' := S.nx + 1) (l0 := []) (_ty := t) hp hu hu2 hd2 hi hzz hzs hsz hb1' src (.inl ⟨rfl, rfl, rfl, hsO, rfl⟩) (by simpa using h4') hop ?_ fun _ => trivial
          simpa [killsE, killsH] using hK
      case wh b =>
        simp only [RelV] at hsO
        obtain ⟨t', l, hb, hv⟩ := hsO
        simp only [hb] at h3
        split at h3
        · rename_i hty
          subst hty
          obtain ⟨h4, hK⟩ := need_some h3
          have h4' : (l.length + xs.length) * i.bytes ≤ 140737488355328 := by simpa [bytesOK, hby] using h4
          refine eff_append_core (b := b) (kl := [b]) (nx' := S.nx) (l0 := l) (_ty := t) hp hu hu2 hd2 hi hzz hzs hsz hb1' src (.inr ⟨by simp [hb], rfl, rfl, ?_⟩) h4' hop hK fun _ => trivial
          rcases hv with ⟨g, c, hg, hv, hc, hrm⟩ | ⟨hg, hl0, hv⟩
          · have hB := hp.blk b
            simp only [hb, RelB] at hB
            rcases hB with ⟨hn, _⟩ | ⟨g', hg', _, hrows⟩
            · rw [hg] at hn; cases hn
            · rw [hg] at hg'; cases hg'
              exact .inr ⟨g, c, hg, hv, hc, hrm, hrows⟩
          · exact .inl ⟨hg, hv, hl0⟩
        · cases h3
      case win b lo n =>
        simp only [RelV] at hsO
        obtain ⟨t', l, hb, hle, hv⟩ := hsO
        simp only [hb] at h3
        split at h3
        · rename_i hty
          subst hty
          obtain ⟨h4, hK⟩ := need_some h3
          simp only [Bool.and_eq_true] at h4
          have hlo : lo = 0 := Nat.eq_of_beq_eq_true h4.2
          subst hlo
          have hln : (l.take n).length = n := by simp; omega
          have h4' : ((l.take n).length + xs.length) * i.bytes ≤ 140737488355328 := by rw [hln]; simpa [bytesOK, hby] using h4.1
          refine eff_append_core (b := b) (kl := [b]) (nx' := S.nx) (l0 := l.take n) (_ty := t) hp hu hu2 hd2 hi hzz hzs hsz hb1' src (.inr ⟨by simp [hb], rfl, rfl, ?_⟩) h4' hop hK fun _ => trivial
          rcases hv with ⟨g, c, o, hg, hv, hc, hrm, ho⟩ | ⟨hg, hl0, hv⟩
          · have ho0 : o = 0 := by rcases ho with rfl | ⟨_, ho⟩ <;> omega
            have hB := hp.blk b
            simp only [hb, RelB] at hB
            rcases hB with ⟨hn, _⟩ | ⟨g', hg', _, hrows⟩
            · rw [hg] at hn; cases hn
            · rw [hg] at hg'; cases hg'
              refine .inr ⟨g, c, hg, by rw [hln, hv, ho0]; rfl, by omega, hrm, fun j hj => ?_⟩
              rw [hln] at hj
              obtain ⟨es, e1, e2, e3⟩ := hrows j (by omega)
              exact ⟨es, e1, e2, by simpa using e3⟩
          · subst hl0
            exact .inl ⟨hg, hv, by simp⟩
        · cases h3
  · cases h

/-- An operation that is more than a value, outright. -/
theorem run_eff {C : Calling} (hC : CallOK P C M) {o : Oper} {ρA : Operand → AV} {K : St → Option α} {Kp : AV → St → Option α} {next : Act → World → Prop} {Q : Exit → Act → World → Prop} (hr : Rg F μ done S a w) (hρ : ∀ x, RelG w (Not F μ S.H) μ S.H a.eval (ρA x) (a.eval x))
    (hd : ∀ d, o.dst = some d → d < a.tmps.size ∧ d ∉ done) (h : (evEff P C o.op ρA S (outK (mayPan o.op) o.dst K Kp)) = some r)
    (hq : ∀ x S' w' val, Kp x S' = some r → PPost F μ S.H S.nx S.kl w a x S' w' a val → Q (.panic [{ v := val, recovered := false }]) a w')
    (hf : ∀ f, ∀ g cs, ρA (.func f) = .fn g cs → g = f)
    (hn : ∀ S' w' a', K S' = some r → Post F μ S w a (dstL o ++ done) S' w' a' → Sure P M o a a' w w' → next a' w') : o.wp P a w next Q := by
  have key : EffOK P F μ S w a.eval o.op (fun v S' => K (S'.put o.dst (noGd v))) r → (∀ f args ts, o.op ≠ .call ⟨.value (.func f), args, ts⟩) → o.wp P a w next Q := fun he hne => eff_run hr hd he hne hn
  cases hop : o.op <;> rw [hop] at h key <;> try (simp only [evEff, reduceCtorEq] at h; done)
  case panic x =>
    simp only [evEff] at h
    have hx := (hρ x).rel
    cases hxv : ρA x <;> simp only [hxv, reduceCtorEq] at h hx
    rename_i t y
    have h : Kp (.ifc t y) S = some r := h
    have hx' := hx
    simp only [RelV] at hx
    obtain ⟨val, hv, _⟩ := hx
    have hrun : (execOp a.eval o).run P w = .halt (.panic (.iface t val)) w := by
      simp only [execOp, hop, hv]
      rfl
    unfold Oper.wp
    rw [hrun]
    refine hq _ _ _ _ h ⟨⟨μ, [], by simp, Pl.refl hr.hp, hr.hp, ?_⟩, rfl⟩
    rw [← hv]
    exact hx'
  case alloc => exact key (eff_alloc hr.hp h) (by simp)
  case box => exact key (eff_box hr.hp hρ h) (by simp)
  case buildSlice => exact key (eff_buildSlice hr.hp hρ h) (by simp)
  case makeSlice => exact key (eff_makeSlice hr.hp hρ h) (by simp)
  case store => exact key (eff_store hr.hp hρ h) (by simp)
  case convert => exact key (eff_toBytes hr.hp hρ h) (by simp)
  case range => exact key (eff_range hr.hp hρ h) (by simp)
  case next => exact key (eff_next hr.hp hρ h) (by simp)
  case makeMap => exact key (eff_makeMap hr.hp h) (by simp)
  case lookup => exact key (eff_lookup hr.hp hρ h) (by simp)
  case mapUpdate => exact key (eff_mapUpdate hr.hp hρ h) (by simp)
  case call c =>
    obtain ⟨callee, args, argTypes⟩ := c
    cases callee with
    | invoke => simp [evEff] at h
    | builtin b => cases b <;> first | (simp [evEff] at h; done) | exact key (eff_append hr.hp hρ h) (by simp) | exact key (eff_clear hr.hp hρ h) (by simp) | exact key (eff_delete hr.hp hρ h) (by simp) | exact key (eff_lenMap hr.hp hρ h) (by simp)
    | value f =>
      simp only [evEff] at h
      have hfr := (hρ f).rel
      cases hfv : ρA f <;> simp only [hfv, reduceCtorEq] at h hfr
      rename_i g caps
      simp only [RelV] at hfr
      obtain ⟨cv, hfe, hcaps⟩ := hfr
      have hargs : RelVs w (Not F μ S.H) μ S.H (args.toList.map ρA ++ caps) (args.toList.map a.eval ++ cv) := RelVs_append (RelVs_map hρ _) hcaps
      rcases hC g _ S α _ r h F μ w _ hr.hp hargs with ⟨hcf, hcalls⟩ | ⟨v, val, hnp, hK, hvr, hcf⟩
      case inr =>
        have hrun : (execOp a.eval o).run P w = .ok (.value val) w := by
          have e1 : args.map a.eval ++ cv.toArray = (args.toList.map a.eval ++ cv).toArray := by apply Array.ext'; simp
          simp [execOp, hop, resolve, Deferred.ofValue, hfe, invoke, e1, hcf]
        have hK : K (S.put o.dst (noGd v)) = some r := by
          cases v <;> first | exact hK | (simp [noPan] at hnp)
        unfold Oper.wp
        rw [hrun]
        refine hn _ _ _ hK ⟨⟨μ, [], ?_, ?_, hr.put' hd hvr⟩, Act.put_size _ _ _, Act.put_defers' _ _ _⟩ ⟨by rw [hop]; trivial, fun _ _ _ _ _ => Keep.refl w, _, rfl⟩
        · cases o.dst <;> simp [St.put]
        · have := Pl.refl hr.hp
          cases o.dst <;> exact this
      have hrun : (execOp a.eval o).run P w = .ok (.enter g (args.toList.map a.eval ++ cv).toArray) w := by
        have e1 : args.map a.eval ++ cv.toArray = (args.toList.map a.eval ++ cv).toArray := by apply Array.ext'; simp
        simp [execOp, hop, resolve, Deferred.ofValue, hfe, invoke, e1, hcf]
      unfold Oper.wp
      rw [hrun]
      refine hcalls.mono fun e w' he => ?_
      obtain ⟨v, S', μ', kl, val, hend, hK, hE, hkl, hp', hpl, hvr, hmild⟩ := he
      cases hnp : noPan v with
      | false =>
        cases v <;> simp only [noPan, Bool.true_eq_false] at hnp
        rename_i x
        have hend : e = .panicked [{ v := val, recovered := false }] := hend
        subst hend
        simp only [RelV] at hvr
        exact hq x S' w' val hK ⟨⟨μ', kl, hkl, hpl, hp', hvr⟩, rfl⟩
      | true =>
      obtain rfl := (EndR.ret hnp).1 hend
      have hK : K (S'.put o.dst (noGd v)) = some r := by
        cases v <;> first | exact hK | (simp [noPan] at hnp)
      have hrg : Rg F μ' done S' a w' := ⟨hp', by rw [hE]; exact hr.e.kill hpl.tr, by rw [hE]; exact tags_kill hr.tags⟩
      refine hn _ _ _ hK ⟨⟨μ', kl, ?_, ?_, hrg.put' hd hvr⟩, Act.put_size _ _ _, Act.put_defers' _ _ _⟩ ⟨by rw [hop]; trivial, fun f0 args0 ts0 he hM => ?_, _, rfl⟩
      · cases o.dst <;> exact hkl
      · cases o.dst <;> exact hpl
      · rw [hop] at he
        simp only [Op.call.injEq, Call.mk.injEq, Callee.value.injEq] at he
        obtain ⟨rfl, _, _⟩ := he
        exact hmild (by rw [hf f0 g caps hfv]; exact hM)

end
end Go.Ev
