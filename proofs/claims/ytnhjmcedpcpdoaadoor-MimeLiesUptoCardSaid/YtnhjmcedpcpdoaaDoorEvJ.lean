/- Operations under guards, and regions in the order that they stand in. -/
import Derived.Test.YtnhjmcedpcpdoaaDoorEvI
namespace Go.Ev
open Go
section
variable {P : Program} {F : Frm (tabsOf P)} {μ μ' : Nat → Option Nat} {S S' : St} {w w' : World} {a a' : Act} {done : List Nat} {α : Type} {r : α} {M : FuncId → Bool}

theorem relUndef {w : World} {N : Nat → Prop} {μ : Nat → Option Nat} {H : Nat → Blk} : RelV w N μ H (.tup []) undef := ⟨[], rfl, rfl⟩

theorem hasN_not {l : List Nat} {j : Nat} (h : hasN l j = false) : j ∉ l := fun hm => by
  rw [hasN_mem.2 hm] at h; cases h

/-- Operands are read off the slots, under a guard or not. -/
def Reads (E : Nat → AV) (ρA : Operand → AV) : Prop := ∀ x, ρA x = opd E x ∨ ∃ j b, ρA x = unG j b (opd E x)

def ValStep (P : Program) (X : Nat → Nat → Prop) {T : Tb} (F : Frm T) (μ : Nat → Option Nat) (done : List Nat) (S : St) (a : Act) (w : World) (ops : Array Oper) (o : Oper) {α : Type} (K : St → Option α) (r : α) : Prop :=
  ∃ v val, K (S.put o.dst v) = some r ∧ Rg F μ (dstL o ++ done) (S.put o.dst v) (a.put o.dst val) w ∧
    ((Region.wanted o (yielded ops a.tmps) = true ∧ ∀ w', Agr X w w' → (execOp a.eval o).run P w' = .ok (.value val) w') ∨ (Region.wanted o (yielded ops a.tmps) = false ∧ val = undef))

theorem not_wanted {q : Bool} {p : Prop} (h : q = true ↔ p) (hp : ¬ p) : q = false := by
  cases q <;> simp_all

theorem gVal_ok {X : Nat → Nat → Prop} {chk : Check} {ops : Array Oper} {o : Oper} {K : St → Option α} {g j : Nat} {b c : Bool} (hr : Rg F μ done S a w)
    (hd : ∀ d, o.dst = some d → d < a.tmps.size ∧ d ∉ done) (hchk : ∀ ρA, (∀ x, RelG w (Not F μ S.H) μ S.H a.eval (ρA x) (a.eval x)) → Reads S.E ρA → chk o.op ρA S.E = true → FreeOp P X a.eval o.op)
    (ho : o.guard = some (g, b)) (hs : slotOf ops g = some j) (hj : j ∈ done) (hc : a.tmps.getD j undef = .bool b → c = b)
    (h : gVal P chk j b c o S K = some r) : ValStep P X F μ done S a w ops o K r := by
  have hw := wanted_iff (a := a) ho hs
  unfold gVal at h
  obtain ⟨h0, h1⟩ := cond_some h
  by_cases hb : a.tmps.getD j undef = .bool b
  · have hρ := unG_ok hr.e hb
    obtain ⟨side, v, hK, hs'⟩ := evVal_ok (X := X) hr.hp hρ (fun _ => rfl) (hchk _ hρ (fun _ => .inr ⟨_, _, rfl⟩) h0) h1
    obtain ⟨h2, h3⟩ := need_some hK
    have hside : side = true := by
      have := hc hb
      subst this
      cases side <;> cases c <;> simp_all
    obtain ⟨val, hv, hy⟩ := hs' hside
    refine ⟨_, val, h3, hr.put hd ⟨hj, .inl ⟨hb, noGd_rel hv⟩⟩, .inl ⟨hw.2 hb, hy o rfl⟩⟩
  · obtain ⟨side, v, hK⟩ := evVal_cps h1
    obtain ⟨h2, h3⟩ := need_some hK
    exact ⟨_, undef, h3, hr.put hd ⟨hj, .inr ⟨hb, rfl⟩⟩, .inr ⟨not_wanted hw hb, rfl⟩⟩

theorem relE_slot {N : Nat → Prop} {H : Nat → Blk} {E : Nat → AV} {tmps : Array Value} {t : Nat} (h : RelE w N μ H E tmps) : ∀ {v : AV}, E t = v → (match v with
    | .gd j b x => (tmps.getD j undef = .bool b ∧ RelV w N μ H x (tmps.getD t undef)) ∨ (tmps.getD j undef ≠ .bool b ∧ tmps.getD t undef = undef)
    | x => RelV w N μ H x (tmps.getD t undef)) := by
  intro v hv
  subst hv
  exact h t

theorem lvOf_true {N : Nat → Prop} {H : Nat → Blk} {E : Nat → AV} {tmps : Array Value} (h : RelE w N μ H E tmps) {j : Nat} {b l : Bool} (hj : tmps.getD j undef = .bool b) (hl : lvOf (E j) b = some l) : l = true := by
  have hs := h j
  cases hE : E j <;> rw [hE] at hl hs <;> simp only [lvOf, reduceCtorEq] at hl
  case b x =>
    simp only [RelV] at hs
    rw [hj] at hs
    simp only [Value.bool.injEq] at hs
    subst hs
    cases b <;> simpa using hl.symm
  case gd j' w' y =>
    cases y <;> simp only [reduceCtorEq] at hl
    simp only [RelV] at hs
    rcases hs with ⟨_, h2⟩ | ⟨_, h2⟩
    · rw [hj] at h2
      simp only [Value.bool.injEq] at h2
      subst h2
      cases b <;> simpa using hl.symm
    · rw [hj] at h2; simp [undef] at h2

theorem lvIn_true {N : Nat → Prop} {H : Nat → Blk} {E : Nat → AV} {tmps : Array Value} (h : RelE w N μ H E tmps) {j : Nat} {b l : Bool} (hj : tmps.getD j undef = .bool b) (hl : lvIn E (E j) b = some l) : l = true := by
  unfold lvIn at hl
  split at hl
  · rename_i j' w' y hE
    have hs := relE_slot h hE
    simp only at hs
    rcases hs with ⟨h1, _⟩ | ⟨_, h2⟩
    · have t1 : ∀ x, lvOf (E j) b = some x → x = true := fun x hx => lvOf_true h hj hx
      have t2 : ∀ x, lvOf (E j') w' = some x → x = true := fun x hx => lvOf_true h h1 hx
      cases h3 : lvOf (E j) b with
      | none =>
        rw [h3] at hl
        exact t2 _ hl
      | some x =>
        have := t1 x h3
        subst this
        rw [h3] at hl
        cases h4 : lvOf (E j') w' with
        | none => rw [h4] at hl; simpa [lvAnd] using hl.symm
        | some y =>
          have := t2 y h4
          subst this
          rw [h4] at hl; simpa [lvAnd] using hl.symm
    · rw [hj] at h2; simp [undef] at h2
  · exact lvOf_true h hj hl

theorem gC_eq {w c : Bool} {l : Option Bool} (h : ∀ x, l = some x → x = true) : gC w c l = c := by
  cases l with
  | none => rfl
  | some x =>
    have := h x rfl
    subst this
    cases w <;> cases c <;> rfl

theorem evOp_val {X : Nat → Nat → Prop} {C : Calling} {chk : Check} {ops : Array Oper} {o : Oper} {K : St → Option α} {Kp : AV → St → Option α} (hv : isVal P o.op = true) (hr : Rg F μ done S a w)
    (hd : ∀ d, o.dst = some d → d < a.tmps.size ∧ d ∉ done) (hchk : ∀ ρA, (∀ x, RelG w (Not F μ S.H) μ S.H a.eval (ρA x) (a.eval x)) → Reads S.E ρA → chk o.op ρA S.E = true → FreeOp P X a.eval o.op)
    (h : evOp P C chk ops done o S K Kp = some r) : ValStep P X F μ done S a w ops o K r := by
  have run : ∀ {ρA}, (∀ x, RelG w (Not F μ S.H) μ S.H a.eval (ρA x) (a.eval x)) → Reads S.E ρA → Region.wanted o (yielded ops a.tmps) = true → evRun P C chk o ρA S K Kp = some r → ValStep P X F μ done S a w ops o K r := by
    intro ρA hρ hrd hw h
    unfold evRun at h
    simp only [hv, cond_true] at h
    obtain ⟨h0, h1⟩ := cond_some h
    obtain ⟨v, val, h2, h3, h4⟩ := run_val hr hρ hd (hchk _ hρ hrd h0) h1
    exact ⟨v, val, h2, h3, .inl ⟨hw, h4⟩⟩
  unfold evOp at h
  cases hg : o.guard with
  | none =>
    simp only [hg] at h
    exact run (opd_ok hr.e) (fun _ => .inl rfl) (by simp [Region.wanted, hg]) h
  | some q =>
    obtain ⟨g, b⟩ := q
    simp only [hg] at h
    cases hs : slotOf ops g with
    | none => simp [hs] at h
    | some j =>
      simp only [hs] at h
      have hw := wanted_iff (a := a) hg hs
      cases hE : S.E j <;> simp only [hE, reduceCtorEq] at h
      case kb x =>
        have sl := relE_slot hr.e hE
        simp only [RelV] at sl
        by_cases hx : x = b
        · subst hx
          simp only [BEq.rfl, cond_true] at h
          exact run (unG_ok hr.e sl) (fun _ => .inr ⟨_, _, rfl⟩) (hw.2 sl) h
        · have hxb : (x == b) = false := by simpa using hx
          simp only [hxb, cond_false] at h
          refine ⟨.tup [], undef, h, hr.put hd relUndef, .inr ⟨not_wanted hw ?_, rfl⟩⟩
          rw [sl]; simpa using hx
      case tup cs =>
        cases cs <;> simp only [reduceCtorEq] at h
        have sl := relE_slot hr.e hE
        simp only [RelV, RelVs] at sl
        obtain ⟨vs, sl, rfl⟩ := sl
        refine ⟨.tup [], undef, h, hr.put hd relUndef, .inr ⟨not_wanted hw ?_, rfl⟩⟩
        rw [sl]; simp
      case b c =>
        have sl := relE_slot hr.e hE
        simp only [RelV] at sl
        obtain ⟨h0, h1⟩ := cond_some h
        simp only [hv, cond_true] at h1
        exact gVal_ok hr hd hchk hg hs (hasN_mem.1 h0) (fun e => by rw [sl] at e; simpa using e) h1
      case gd j' w' y =>
        have body : ∀ c : Bool, ((a.tmps.getD j' undef = .bool w' ∧ a.tmps.getD j undef = .bool c) ∨ (a.tmps.getD j' undef ≠ .bool w' ∧ a.tmps.getD j undef = undef)) → evGd P C chk done o S K Kp j b j' w' c = some r → ValStep P X F μ done S a w ops o K r := by
          intro c sl h
          unfold evGd at h
          obtain ⟨h0, h1⟩ := cond_some h
          simp only [hv, cond_true] at h1
          cases hru : ruled (S.E j') w' with
          | true =>
            simp only [hru, cond_true] at h1
            refine ⟨.tup [], undef, h1, hr.put hd relUndef, .inr ⟨not_wanted hw ?_, rfl⟩⟩
            unfold ruled at hru
            split at hru
            · rename_i x hx
              have sl' := relE_slot hr.e hx
              simp only [RelV] at sl'
              rcases sl with ⟨e1, _⟩ | ⟨_, e2⟩
              · rw [sl'] at e1
                simp only [Value.bool.injEq] at e1
                subst e1
                simp at hru
              · rw [e2]; simp [undef]
            · cases hru
          | false =>
          simp only [hru, cond_false] at h1
          refine gVal_ok hr hd hchk hg hs (hasN_mem.1 h0) (fun e => ?_) h1
          rcases sl with ⟨e1, e2⟩ | ⟨_, e2⟩
          · rw [gC_eq fun x hx => lvIn_true hr.e e1 hx]
            rw [e2] at e; simpa using e
          · rw [e2] at e; simp [undef] at e
        cases y <;> simp only [reduceCtorEq] at h
        case b c =>
          have sl := relE_slot hr.e hE
          simp only [RelV] at sl
          exact body c sl h
        case kb c =>
          have sl := relE_slot hr.e hE
          simp only [RelV] at sl
          cases hcb : c == b with
          | true => rw [hcb, cond_true] at h; exact body c sl h
          | false =>
            simp only [hcb, cond_false] at h
            refine ⟨.tup [], undef, h, hr.put hd relUndef, .inr ⟨not_wanted hw ?_, rfl⟩⟩
            rcases sl with ⟨_, e2⟩ | ⟨_, e2⟩
            · rw [e2]; simpa using hcb
            · rw [e2]; simp [undef]

/-- A slot of which more is known than was. -/
theorem Rg.know (hr : Rg F μ done S a w) {j : Nat} {v : AV} (hv : RelV w (Not F μ S.H) μ S.H v (a.tmps.getD j undef)) (hn : noGd v = v) : Rg F μ done ⟨upd S.E j v, S.H, S.nx, S.kl⟩ a w where
  hp := hr.hp
  e := fun t => by
    by_cases ht : t = j
    · subst ht
      show (match upd S.E t v t with
        | .gd j b x => _
        | x => RelV w (Not F μ S.H) μ S.H x (a.tmps.getD t undef))
      rw [upd_same]
      cases v <;> first | exact hv | simp [noGd] at hn
    · show (match upd S.E j v t with
        | .gd j b x => (a.tmps.getD j undef = .bool b ∧ RelV w (Not F μ S.H) μ S.H x (a.tmps.getD t undef)) ∨ (a.tmps.getD j undef ≠ .bool b ∧ a.tmps.getD t undef = undef)
        | x => RelV w (Not F μ S.H) μ S.H x (a.tmps.getD t undef))
      rw [upd_other ht]
      exact hr.e t
  tags := fun t j' b x hE => by
    by_cases ht : t = j
    · subst ht
      simp only [upd_same] at hE
      subst hE
      simp [noGd] at hn
    · simp only [upd_other ht] at hE
      exact hr.tags t j' b x hE

theorem Post.of_know {j : Nat} {v : AV} (h : Post F μ ⟨upd S.E j v, S.H, S.nx, S.kl⟩ w a done S' w' a') : Post F μ S w a done S' w' a' := by
  obtain ⟨⟨μ', kl, h1, h2, h3⟩, h4, h5⟩ := h
  exact ⟨⟨μ', kl, h1, h2, h3⟩, h4, h5⟩

theorem post_skip (hr : Rg F μ done S a w) {dst : Option Nat} (hd : ∀ d, dst = some d → d < a.tmps.size ∧ d ∉ done) : Post F μ S w a (dst.toList ++ done) (S.put dst (.tup [])) w (a.put dst undef) := by
  refine ⟨⟨μ, [], by cases dst <;> simp [St.put], ?_, hr.put hd relUndef⟩, Act.put_size _ _ _, Act.put_defers' _ _ _⟩
  have := Pl.refl hr.hp
  cases dst <;> exact this

def wpTurn (P : Program) (ops : Array Oper) (o : Oper) (a : Act) (w : World) (next : Act → World → Prop) (Q : Exit → Act → World → Prop) : Prop :=
  if Region.wanted o (yielded ops a.tmps) then o.wp P a w next Q else next (a.put o.dst undef) w

theorem opd_func {E : Nat → AV} (f : FuncId) : ∀ g cs, opd E (.func f) = .fn g cs → g = f := by
  intro g cs h; simp only [opd, AV.fn.injEq] at h; exact h.1.symm

theorem evOp_eff {C : Calling} (hC : CallOK P C M) {chk : Check} {ops : Array Oper} {o : Oper} {K : St → Option α} {Kp : AV → St → Option α} {next : Act → World → Prop} {Q : Exit → Act → World → Prop} (hv : isVal P o.op = false) (hr : Rg F μ done S a w)
    (hd : ∀ d, o.dst = some d → d < a.tmps.size ∧ d ∉ done) (h : evOp P C chk ops done o S K Kp = some r)
    (hq : ∀ x S' w' val, Kp x S' = some r → PPost F μ S.H S.nx S.kl w a x S' w' a val → Q (.panic [{ v := val, recovered := false }]) a w')
    (hn : ∀ S' w' a', K S' = some r → Post F μ S w a (dstL o ++ done) S' w' a' → Sure P M o a a' w w' → next a' w') : wpTurn P ops o a w next Q := by
  have run : ∀ {S0 : St} {ρA}, Rg F μ done S0 a w → (S0.H = S.H ∧ S0.nx = S.nx ∧ S0.kl = S.kl) → (∀ {S' w' a'}, Post F μ S0 w a (dstL o ++ done) S' w' a' → Post F μ S w a (dstL o ++ done) S' w' a') → (∀ x, RelG w (Not F μ S0.H) μ S0.H a.eval (ρA x) (a.eval x)) →
      (∀ f, ∀ g cs, ρA (.func f) = .fn g cs → g = f) → Region.wanted o (yielded ops a.tmps) = true → evRun P C chk o ρA S0 K Kp = some r → wpTurn P ops o a w next Q := by
    intro S0 ρA hr0 hsm hp hρ hf hw h
    unfold evRun at h
    simp only [hv, cond_false] at h
    unfold wpTurn
    rw [if_pos hw]
    exact run_eff hC hr0 hρ hd h (fun x S' w' val h1 h2 => hq x S' w' val h1 (by rw [← hsm.1, ← hsm.2.1, ← hsm.2.2]; exact h2)) hf fun S' w' a' h1 h2 h3 => hn S' w' a' h1 (hp h2) h3
  have skip : ∀ {S0 : St}, Rg F μ done S0 a w → (∀ {S' w' a'}, Post F μ S0 w a (dstL o ++ done) S' w' a' → Post F μ S w a (dstL o ++ done) S' w' a') → Region.wanted o (yielded ops a.tmps) = false →
      K (S0.put o.dst (.tup [])) = some r → wpTurn P ops o a w next Q := by
    intro S0 hr0 hp hw h
    unfold wpTurn
    rw [if_neg (by simp [hw])]
    exact hn _ _ _ h (hp (post_skip hr0 hd)) (Sure.skip w)
  have unf : ∀ {E : Nat → AV} {j : Nat} {b : Bool} (f : FuncId), ∀ g cs, unG j b (opd E (.func f)) = .fn g cs → g = f := by
    intro E j b f g cs h
    simp only [opd, unG, AV.fn.injEq] at h
    exact h.1.symm
  unfold evOp at h
  cases hg : o.guard with
  | none =>
    simp only [hg] at h
    exact run hr ⟨rfl, rfl, rfl⟩ id (opd_ok hr.e) opd_func (by simp [Region.wanted, hg]) h
  | some q =>
    obtain ⟨g, b⟩ := q
    simp only [hg] at h
    cases hs : slotOf ops g with
    | none => simp [hs] at h
    | some j =>
      simp only [hs] at h
      have hw := wanted_iff (a := a) hg hs
      -- once the guard's value is known
      have eff : ∀ {S0 : St} {c : Bool}, Rg F μ done S0 a w → (S0.H = S.H ∧ S0.nx = S.nx ∧ S0.kl = S.kl) → (∀ {S' w' a'}, Post F μ S0 w a (dstL o ++ done) S' w' a' → Post F μ S w a (dstL o ++ done) S' w' a') → a.tmps.getD j undef = .bool c →
          (gEff P C chk j b c o S0 K Kp = some r) → wpTurn P ops o a w next Q := by
        intro S0 c hr0 hsm hp hc h
        unfold gEff at h
        have same : cond b c (!c) = (c == b) := by cases b <;> cases c <;> rfl
        rw [same] at h
        by_cases hcb : c = b
        · subst hcb
          simp only [BEq.rfl, cond_true] at h
          exact run (hr0.know (v := .kb c) (by simpa [RelV] using hc) rfl) hsm (fun h => hp h.of_know) (unG_ok hr0.e hc) unf (hw.2 hc) h
        · have hxb : (c == b) = false := by simpa using hcb
          simp only [hxb, cond_false] at h
          have hcn : c = !b := by cases b <;> cases c <;> simp_all
          exact skip (hr0.know (v := .kb (!b)) (by rw [hc, hcn]; rfl) rfl) (fun h => hp h.of_know) (not_wanted hw (by rw [hc]; simpa using hcb)) h
      cases hE : S.E j <;> simp only [hE, reduceCtorEq] at h
      case kb x =>
        have sl := relE_slot hr.e hE
        simp only [RelV] at sl
        by_cases hx : x = b
        · subst hx
          simp only [BEq.rfl, cond_true] at h
          exact run hr ⟨rfl, rfl, rfl⟩ id (unG_ok hr.e sl) unf (hw.2 sl) h
        · have hxb : (x == b) = false := by simpa using hx
          simp only [hxb, cond_false] at h
          exact skip hr id (not_wanted hw (by rw [sl]; simpa using hx)) h
      case tup cs =>
        cases cs <;> simp only [reduceCtorEq] at h
        have sl := relE_slot hr.e hE
        simp only [RelV, RelVs] at sl
        obtain ⟨vs, sl, rfl⟩ := sl
        exact skip hr id (not_wanted hw (by rw [sl]; simp)) h
      case b c =>
        have sl := relE_slot hr.e hE
        simp only [RelV] at sl
        obtain ⟨h0, h1⟩ := cond_some h
        simp only [hv, cond_false] at h1
        exact eff hr ⟨rfl, rfl, rfl⟩ id sl h1
      case gd j' w' y =>
        have body : ∀ c : Bool, ((a.tmps.getD j' undef = .bool w' ∧ a.tmps.getD j undef = .bool c) ∨ (a.tmps.getD j' undef ≠ .bool w' ∧ a.tmps.getD j undef = undef)) → evGd P C chk done o S K Kp j b j' w' c = some r → wpTurn P ops o a w next Q := by
          intro c sl h
          unfold evGd at h
          obtain ⟨h0, h1⟩ := cond_some h
          simp only [hv, cond_false] at h1
          have no : a.tmps.getD j' undef ≠ .bool w' → Region.wanted o (yielded ops a.tmps) = false := fun hne => by
            rcases sl with ⟨e1, _⟩ | ⟨_, e2⟩
            · exact absurd e1 hne
            · exact not_wanted hw (by rw [e2]; simp [undef])
          have yes : a.tmps.getD j' undef = .bool w' → a.tmps.getD j undef = .bool c := fun he => by
            rcases sl with ⟨_, e2⟩ | ⟨e1, _⟩
            · exact e2
            · exact absurd he e1
          cases hE' : S.E j' <;> simp only [hE', reduceCtorEq] at h1
          case b c' =>
            have sl' := relE_slot hr.e hE'
            simp only [RelV] at sl'
            have same : cond w' c' (!c') = (c' == w') := by cases w' <;> cases c' <;> rfl
            rw [same] at h1
            by_cases hcb : c' = w'
            · subst hcb
              simp only [BEq.rfl, cond_true] at h1
              have hjc := yes sl'
              have r1 := hr.know (j := j') (v := .kb c') (by simpa [RelV] using sl') rfl
              have r2 := r1.know (j := j) (v := .b c) (by simpa [RelV] using hjc) rfl
              exact eff r2 ⟨rfl, rfl, rfl⟩ (fun h => (h.of_know (S := ⟨_, S.H, S.nx, S.kl⟩)).of_know) hjc h1
            · have hxb : (c' == w') = false := by simpa using hcb
              simp only [hxb, cond_false] at h1
              have hcn : c' = !w' := by cases w' <;> cases c' <;> simp_all
              have r1 := hr.know (j := j') (v := .kb (!w')) (by rw [sl', hcn]; rfl) rfl
              exact skip r1 (fun h => h.of_know) (no (by rw [sl']; simpa using hcb)) h1
          case kb x =>
            have sl' := relE_slot hr.e hE'
            simp only [RelV] at sl'
            by_cases hcb : x = w'
            · subst hcb
              simp only [BEq.rfl, cond_true] at h1
              have hjc := yes sl'
              have r2 := hr.know (j := j) (v := .b c) (by simpa [RelV] using hjc) rfl
              exact eff r2 ⟨rfl, rfl, rfl⟩ (fun h => h.of_know) hjc h1
            · have hxb : (x == w') = false := by simpa using hcb
              simp only [hxb, cond_false] at h1
              exact skip hr id (no (by rw [sl']; simpa using hcb)) h1
        cases y <;> simp only [reduceCtorEq] at h
        case b c =>
          have sl := relE_slot hr.e hE
          simp only [RelV] at sl
          exact body c sl h
        case kb c =>
          have sl := relE_slot hr.e hE
          simp only [RelV] at sl
          cases hcb : c == b with
          | true => rw [hcb, cond_true] at h; exact body c sl h
          | false =>
            simp only [hcb, cond_false] at h
            refine skip hr id (not_wanted hw ?_) h
            rcases sl with ⟨_, e2⟩ | ⟨_, e2⟩
            · rw [e2]; simpa using hcb
            · rw [e2]; simp [undef]

theorem fresh_ok {n : Nat} {dst : Option Nat} (h : fresh n done dst = true) : ∀ d, dst = some d → d < n ∧ d ∉ done := by
  intro d hd
  subst hd
  simp only [fresh, Bool.and_eq_true, Bool.not_eq_true'] at h
  exact ⟨Nat.le_of_ble_eq_true h.1, hasN_not h.2⟩

end
end Go.Ev
