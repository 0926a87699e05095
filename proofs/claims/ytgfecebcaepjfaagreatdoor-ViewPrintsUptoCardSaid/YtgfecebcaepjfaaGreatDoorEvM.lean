/- Regions whose order is drawn: the order that is planned. -/
import Derived.Test.YtgfecebcaepjfaaGreatDoorEvq2
namespace Go.Ev
open Go
section
variable {P : Program} {F : Frm (tabsOf P)} {μ μ' : Nat → Option Nat} {S S' : St} {w w' : World} {a a' : Act} {done : List Nat} {α : Type} {r : α} {M : FuncId → Bool} {ops : Array Oper} {Q : Exit → Act → World → Prop}

theorem bnd_eq (e : Edge) : Region.binds .any e = bnd e := by
  unfold Region.binds bnd
  cases e.ground <;> rfl

/-- Which operations have come up. -/
structure Ld (ops : Array Oper) (done : List Nat) (listed : Array Bool) : Prop where
  size : listed.size = ops.size
  at_ : ∀ i, i < ops.size → listed.getD i false = hasN done i
  lt : ∀ i, i ∈ done → i < ops.size

variable {listed : Array Bool}

theorem Ld.getT (h : Ld ops done listed) {i : Nat} (hi : i < ops.size) (d : Bool) : listed.getD i d = hasN done i := by
  rw [← h.at_ i hi]
  have : i < listed.size := by rw [h.size]; exact hi
  simp [this]

theorem Ld.getF (h : Ld ops done listed) (i : Nat) : listed.getD i false = hasN done i := by
  rcases Nat.lt_or_ge i ops.size with hi | hi
  · exact h.at_ i hi
  · have h1 : ¬ i < listed.size := by rw [h.size]; omega
    have h2 : hasN done i = false := by
      cases hh : hasN done i with
      | false => rfl
      | true => have := h.lt i (hasN_mem.1 hh); omega
    simp [h1, h2]

theorem Ld.cons (h : Ld ops done listed) {k : Nat} (hk : k < ops.size) : Ld ops (k :: done) (listed.setIfInBounds k true) where
  size := by simp [h.size]
  at_ := fun i hi => by
    by_cases hik : k = i
    · subst hik
      have : k < listed.size := by rw [h.size]; exact hk
      simp [this, hasN]
    · rw [getD_set_ne false hik, h.at_ i hi]
      have : Nat.beq i k = false := Bool.eq_false_iff.2 fun e => hik (Nat.eq_of_beq_eq_true e).symm
      simp only [hasN, List.any_cons, this, Bool.false_or]
  lt := fun i hi => by
    rcases List.mem_cons.1 hi with rfl | hi
    · exact hk
    · exact h.lt i hi

theorem rdy_iff (h : Ld ops done listed) {o : Oper} : rdy done o = true ↔ ∀ e ∈ o.after, Region.binds .any e = true → listed.getD e.on false = true := by
  simp only [rdy, List.all_eq_true, Bool.or_eq_true, Bool.not_eq_true', bnd_eq, h.getF]
  constructor
  · intro hh e he hb
    exact (hh e (by simpa using he)).resolve_left (by simp [hb])
  · intro hh e he
    cases hb : bnd e
    · exact .inl rfl
    · exact .inr (hh e (by simpa using he) hb)

theorem ready_iff (h : Ld ops done listed) {i : Nat} : i ∈ Region.ready .any ops listed ↔ ∃ o, ops[i]? = some o ∧ hasN done i = false ∧ rdy done o = true := by
  rw [mem_ready]
  constructor
  · rintro ⟨h1, o, h2, h3⟩
    have hi : i < ops.size := (Array.getElem?_eq_some_iff.1 h2).1
    exact ⟨o, h2, by rw [← h.getT hi true]; exact h1, (rdy_iff h).2 h3⟩
  · rintro ⟨o, h2, h1, h3⟩
    have hi : i < ops.size := (Array.getElem?_eq_some_iff.1 h2).1
    exact ⟨by rw [h.getT hi true]; exact h1, o, h2, (rdy_iff h).1 h3⟩

theorem pickV_ok {may : Nat → Oper → Bool} : ∀ (l : List Oper) (k : Nat) {i : Nat} {o : Oper}, (∀ j, l[j]? = ops[k + j]?) → pickV P may done k l = some (i, o) → ops[i]? = some o ∧ hasN done i = false ∧ isVal P o.op = true ∧ rdy done o = true
  | [], k, i, o, _, h => by simp [pickV] at h
  | x :: l, k, i, o, hl, h => by
    simp only [pickV] at h
    cases hc : (!hasN done k && isVal P x.op && rdy done x && may k x) with
    | true =>
      rw [hc] at h
      simp only [cond_true, Option.some.injEq, Prod.mk.injEq] at h
      obtain ⟨rfl, rfl⟩ := h
      simp only [Bool.and_eq_true, Bool.not_eq_true'] at hc
      exact ⟨by simpa using (hl 0).symm, hc.1.1.1, hc.1.1.2, hc.1.2⟩
    | false =>
      rw [hc] at h
      exact pickV_ok l (k + 1) (fun j => by have := hl (j + 1); simpa [Nat.add_assoc, Nat.add_comm 1 j] using this) h

theorem readies_mem : ∀ (l : List Oper) (k : Nat) {i : Nat} {o : Oper}, (∀ j, l[j]? = ops[k + j]?) → k ≤ i → ops[i]? = some o → hasN done i = false → rdy done o = true → i ∈ readies done k l
  | [], k, i, o, hl, hki, ho, _, _ => by
    have := hl (i - k)
    rw [show k + (i - k) = i by omega, ho] at this
    simp at this
  | x :: l, k, i, o, hl, hki, ho, hd, hr => by
    have hl' : ∀ j, l[j]? = ops[(k + 1) + j]? := fun j => by have := hl (j + 1); simpa [Nat.add_assoc, Nat.add_comm 1 j] using this
    simp only [readies]
    by_cases hik : i = k
    · subst hik
      have : x = o := by
        have := hl 0
        simp only [List.getElem?_cons_zero, Nat.add_zero, ho, Option.some.injEq] at this
        exact this
      subst this
      simp [hd, hr]
    · have := readies_mem l (k + 1) hl' (by omega) ho hd hr
      cases (!hasN done k && rdy done x) <;> simp [this]

theorem readies_sub : ∀ (l : List Oper) (k : Nat) {i : Nat}, (∀ j, l[j]? = ops[k + j]?) → i ∈ readies done k l → ∃ o, ops[i]? = some o ∧ hasN done i = false ∧ rdy done o = true
  | [], k, i, _, h => by simp [readies] at h
  | x :: l, k, i, hl, h => by
    have hl' : ∀ j, l[j]? = ops[(k + 1) + j]? := fun j => by have := hl (j + 1); simpa [Nat.add_assoc, Nat.add_comm 1 j] using this
    simp only [readies] at h
    cases hc : (!hasN done k && rdy done x) with
    | true =>
      rw [hc] at h
      simp only [cond_true, List.mem_cons] at h
      rcases h with rfl | h
      · simp only [Bool.and_eq_true, Bool.not_eq_true'] at hc
        exact ⟨x, by simpa using (hl 0).symm, hc.1, hc.2⟩
      · exact readies_sub l (k + 1) hl' h
    | false =>
      rw [hc] at h
      exact readies_sub l (k + 1) hl' h

theorem ready_readies (h : Ld ops done listed) {i : Nat} : i ∈ Region.ready .any ops listed ↔ i ∈ readies done 0 ops.toList := by
  rw [ready_iff h]
  constructor
  · rintro ⟨o, h1, h2, h3⟩
    exact readies_mem ops.toList 0 (by simp) (Nat.zero_le _) h1 h2 h3
  · exact fun h => readies_sub ops.toList 0 (by simp) h

theorem others_ok {ds : List Nat} {x : Nat} {ox : Oper} {bh : List Nat} : ∀ (l : List Oper) (k : Nat) {wild : List Nat} {av : List Nat}, (∀ j, l[j]? = ops[k + j]?) → others P M ops ds done x ox bh k l = some (wild, av) →
    ∀ j oj, k ≤ j → ops[j]? = some oj → hasN done j = false → j ≠ x → hasN bh j = false → ox.apart ops oj = true ∧ match kindOf P M ds oj with
      | .st d => d ∈ av
      | .wild => j ∈ wild
      | _ => True
  | [], k, wild, av, hl, _, j, oj, hkj, hoj, _, _, _ => by
    have := hl (j - k)
    rw [show k + (j - k) = j by omega, hoj] at this
    simp at this
  | o :: l, k, wild, av, hl, h, j, oj, hkj, hoj, hdj, hjx, hw => by
    have hl' : ∀ j, l[j]? = ops[(k + 1) + j]? := fun j => by have := hl (j + 1); simpa [Nat.add_assoc, Nat.add_comm 1 j] using this
    simp only [others] at h
    cases ho : others P M ops ds done x ox bh (k + 1) l with
    | none => simp [ho] at h
    | some q =>
      obtain ⟨wild', av'⟩ := q
      simp only [ho] at h
      by_cases hjk : j = k
      · subst hjk
        have : o = oj := by
          have := hl 0
          simp only [List.getElem?_cons_zero, Nat.add_zero, hoj, Option.some.injEq] at this
          exact this
        subst this
        have hbe : Nat.beq j x = false := Bool.eq_false_iff.2 fun e => hjx (Nat.eq_of_beq_eq_true e)
        simp only [hdj, hbe, hw, Bool.or_false, cond_false] at h
        obtain ⟨h1, h2⟩ := cond_some h
        refine ⟨h1, ?_⟩
        cases hk : kindOf P M ds o <;> simp only [hk, Option.some.injEq, Prod.mk.injEq] at h2 ⊢
        · simp [← h2.2]
        · simp [← h2.1]
      · have ih := others_ok l (k + 1) hl' ho j oj (by omega) hoj hdj hjx hw
        refine ⟨ih.1, ?_⟩
        have ih2 := ih.2
        have grow : (∀ d, d ∈ wild' → d ∈ wild) ∧ ∀ d, d ∈ av' → d ∈ av := by
          cases hc : (hasN done k || Nat.beq k x || hasN bh k) with
          | true =>
            simp only [hc, cond_true, Option.some.injEq, Prod.mk.injEq] at h
            obtain ⟨rfl, rfl⟩ := h
            exact ⟨fun _ => id, fun _ => id⟩
          | false =>
            simp only [hc, cond_false] at h
            obtain ⟨_, h2⟩ := cond_some h
            cases hk : kindOf P M ds o <;> simp only [hk, Option.some.injEq, Prod.mk.injEq] at h2 <;> obtain ⟨rfl, rfl⟩ := h2
            · exact ⟨fun _ => id, fun _ => id⟩
            · exact ⟨fun _ => id, fun _ => id⟩
            · exact ⟨fun _ => id, fun _ h => List.mem_cons_of_mem _ h⟩
            · exact ⟨fun _ h => List.mem_cons_of_mem _ h, fun _ => id⟩
        cases hk : kindOf P M ds oj <;> simp only [hk] at ih2 ⊢
        · exact grow.2 _ ih2
        · exact grow.1 _ ih2

/-- What an operation pledges, by its kind. -/
def GK (t0 : Array Value) (i : Nat) (k : Kd) (T : Gh) (w : World) (T' : Gh) (w' : World) : Prop :=
  (∀ g, T'.1 g → T.1 g ∨ w.heap.size ≤ g) ∧ (∀ j g k, T.2 j g k → T'.2 j g k) ∧ (∀ g k, T.2 i g k → ∀ v, w.cell? ⟨g, k, none⟩ = some v → w'.cell? ⟨g, k, none⟩ = some v) ∧ match k with
    | .val | .new => Keep (fun _ => False) w w'
    | .st d => Keep (fun g => ∃ o, t0.getD d undef = .pointer (some ⟨g, o, none⟩)) w w'
    | .wild => Keep T.1 w w'

def GI (P : Program) (M : FuncId → Bool) (ops : Array Oper) (ds : List Nat) (t0 : Array Value) (i : Nat) (T : Gh) (w : World) (T' : Gh) (w' : World) : Prop :=
  ∀ o, ops[i]? = some o → GK t0 i (kindOf P M ds o) T w T' w'

def XK (t0 : Array Value) (wild av : List Nat) (T0 : Nat → Prop) : Nat → Prop := fun g => (wild ≠ [] ∧ T0 g) ∨ ∃ d ∈ av, ∃ o, t0.getD d undef = .pointer (some ⟨g, o, none⟩)

/-- the cells that are watched: of blocks that no operation with a known address writes -/
def JK (t0 : Array Value) (wild av : List Nat) (T0 : Nat → Prop) (WR : Nat → Nat → Prop) (w0 : World) (T : Gh) (w : World) : Prop :=
  Keep (XK t0 wild av T0) w0 w ∧ (∀ g, T.1 g → T0 g ∨ w0.heap.size ≤ g) ∧ ∀ g k, WR g k → (∀ j ∈ wild, T.2 j g k) ∧ ∀ v, w0.cell? ⟨g, k, none⟩ = some v → w.cell? ⟨g, k, none⟩ = some v

theorem JK.step {t0 : Array Value} {wild av : List Nat} {T0 : Nat → Prop} {WR : Nat → Nat → Prop} {w0 : World} {i : Nat} {k : Kd} (hk : match k with
      | .st d => d ∈ av
      | .wild => i ∈ wild
      | _ => True) (hWR : ∀ g k, WR g k → ∀ d ∈ av, ∀ o, t0.getD d undef ≠ .pointer (some ⟨g, o, none⟩)) {T T' : Gh} (hj : JK t0 wild av T0 WR w0 T w) (hg : GK t0 i k T w T' w') : JK t0 wild av T0 WR w0 T' w' := by
  obtain ⟨h1, h2, h3⟩ := hj
  obtain ⟨g1, g3, g4, g2⟩ := hg
  have hsize : w.heap.size ≤ w'.heap.size := by cases k <;> exact g2.size
  refine ⟨⟨Nat.le_trans h1.size hsize, fun g hg hX => ?_⟩, fun g hT => ?_, fun g c hw => ⟨fun j hj => g3 j g c ((h3 g c hw).1 j hj), fun v hv => ?_⟩⟩
  · rw [← h1.keep g hg hX]
    have hgw : g < w.heap.size := Nat.lt_of_lt_of_le hg h1.size
    cases k with
    | val => exact g2.keep g hgw (fun x => x)
    | new => exact g2.keep g hgw (fun x => x)
    | st d => exact g2.keep g hgw fun ⟨o, ho⟩ => hX (.inr ⟨d, hk, o, ho⟩)
    | wild => exact g2.keep g hgw fun hT => (h2 g hT).elim (fun h => hX (.inl ⟨List.ne_nil_of_mem hk, h⟩)) (fun h => by omega)
  · rcases g1 g hT with h | h
    · exact h2 g h
    · exact .inr (Nat.le_trans h1.size h)
  · have hv' := (h3 g c hw).2 v hv
    have hlt := World.block_lt_of_cell? w _ hv'
    cases k with
    | val => rw [cell?_of_heap (g2.keep g hlt (fun x => x))]; exact hv'
    | new => rw [cell?_of_heap (g2.keep g hlt (fun x => x))]; exact hv'
    | st d => rw [cell?_of_heap (g2.keep g hlt fun ⟨o, ho⟩ => hWR g c hw d hk o ho)]; exact hv'
    | wild => exact g4 g c ((h3 g c hw).1 i hk) v hv'

theorem isNilN_eq {l : List Nat} (h : isNilN l = true) : l = [] := by cases l <;> first | rfl | cases h

/-- A value's block is none that may be written meanwhile, but for a tracked one that is watched. -/
theorem addr_free {wild av : List Nat} {free : Bool} (hr : Rg F μ done S a w) {x : AV} {v : Value} (hc : addrOK S.E free av x = true) (hf : free = true → wild = [] ∨ isPtr x = true) (hx : RelV w (Not F μ S.H) μ S.H x v) :
    (∀ g o, v = .pointer (some ⟨g, o, none⟩) → ¬ XK a.tmps wild av (Trk μ S.H) g ∨ ∃ b, x = .ptr b o ∧ S.H b ≠ .dead ∧ μ b = some g ∧ ∀ d ∈ av, ∀ o', a.tmps.getD d undef ≠ .pointer (some ⟨g, o', none⟩)) ∧
    (isPtr x = false → ∀ g o n c, v = .slice (some ⟨g, o, none⟩) n c → 0 < n → ¬ XK a.tmps wild av (Trk μ S.H) g) := by
  -- a slot that holds a tracked block's address
  have slot : ∀ {d b' o' g o}, S.E d = .ptr b' o' → a.tmps.getD d undef = .pointer (some ⟨g, o, none⟩) → S.H b' ≠ .dead ∧ μ b' = some g := fun {d b' o' g o} hE ht => by
    have sl := relE_slot hr.e hE
    simp only [RelV] at sl
    obtain ⟨h1, g', h2, h3⟩ := sl
    rw [ht] at h3
    simp only [Value.pointer.injEq, Option.some.injEq, Addr.mk.injEq] at h3
    exact ⟨h1, by rw [h3.1]; exact h2⟩
  have plain : (av.all fun d => match S.E d with
      | .ptr _ _ => true
      | _ => false) = true → ∀ g, ¬ Not F μ S.H g → ¬ XK a.tmps wild av (Trk μ S.H) g := fun hall g hn hX => by
    rcases hX with ⟨_, hT⟩ | ⟨d, hd, o, ht⟩
    · exact hn (.inr hT)
    · have := List.all_eq_true.1 hall d hd
      cases hE : S.E d <;> simp only [hE, Bool.false_eq_true] at this
      obtain ⟨h1, h2⟩ := slot hE ht
      exact hn (.inr ⟨_, h1, h2⟩)
  have off : ∀ {b : Nat}, (av.all fun d => match S.E d with
      | .ptr b' _ => !Nat.beq b' b
      | _ => false) = true → S.H b ≠ .dead → ∀ g, μ b = some g → ∀ d ∈ av, ∀ o', a.tmps.getD d undef ≠ .pointer (some ⟨g, o', none⟩) := fun {b} hall hl g hg d hd o' ht => by
    have := List.all_eq_true.1 hall d hd
    cases hE : S.E d <;> simp only [hE, Bool.false_eq_true] at this
    obtain ⟨h1, h2⟩ := slot hE ht
    have := hr.hp.inj _ _ g h1 hl h2 hg
    subst this
    simp at this
  have block : ∀ {b : Nat}, isPtr x = false → (free && av.all fun d => match S.E d with
      | .ptr b' _ => !Nat.beq b' b
      | _ => false) = true → S.H b ≠ .dead → ∀ g, μ b = some g → ¬ XK a.tmps wild av (Trk μ S.H) g := fun {b} hnp hall hl g hg hX => by
    simp only [Bool.and_eq_true] at hall
    rcases hX with ⟨hw, _⟩ | ⟨d, hd, o, ht⟩
    · exact (hf hall.1).elim hw fun h => by rw [hnp] at h; cases h
    · exact off hall.2 hl g hg d hd o ht
  cases x <;> simp only [addrOK, Bool.false_eq_true] at hc <;> simp only [RelV] at hx
  case i => subst hx; exact ⟨by simp, by simp⟩
  case u => subst hx; exact ⟨by simp, by simp⟩
  case s => subst hx; exact ⟨by simp, by simp⟩
  case sl t l =>
    simp only [RelD, List.cons.injEq, and_true] at hx
    obtain ⟨b, c, rfl, _, hrow⟩ := hx
    refine ⟨by simp, fun _ g o n c' he hn => ?_⟩
    simp only [Value.slice.injEq] at he
    obtain ⟨rfl, rfl, rfl⟩ := he
    obtain ⟨g', o', he', hn', _⟩ := hrow hn
    simp only [Option.some.injEq, Addr.mk.injEq] at he'
    rw [he'.1]
    exact plain hc _ hn'
  case fp t l ix f =>
    obtain ⟨_, g', o', hn', _, rfl, _⟩ := hx
    refine ⟨fun g o he => .inl ?_, by simp⟩
    simp only [Value.pointer.injEq, Option.some.injEq, Addr.mk.injEq] at he
    rw [← he.1]
    exact plain hc _ hn'
  case ptr b o =>
    obtain ⟨hl, g', hg, rfl⟩ := hx
    refine ⟨fun g o' he => .inr ?_, by simp [isPtr]⟩
    simp only [Value.pointer.injEq, Option.some.injEq, Addr.mk.injEq] at he
    obtain ⟨rfl, rfl, _⟩ := he
    simp only [Bool.and_eq_true] at hc
    exact ⟨b, rfl, hl, hg, off hc.2 hl _ hg⟩
  case ep b t ix f =>
    obtain ⟨l, g', hb, _, hg, rfl⟩ := hx
    refine ⟨fun g o he => .inl ?_, by simp⟩
    simp only [Value.pointer.injEq, Option.some.injEq, Addr.mk.injEq] at he
    rw [← he.1]
    exact block rfl hc (by simp [hb]) _ hg
  case wh b =>
    obtain ⟨t, l, hb, ⟨g', c, hg, rfl, _⟩ | ⟨_, _, rfl⟩⟩ := hx
    · refine ⟨by simp, fun _ g o n c he _ => ?_⟩
      simp only [Value.slice.injEq, Option.some.injEq, Addr.mk.injEq] at he
      rw [← he.1.1]
      exact block rfl hc (by simp [hb]) _ hg
    · exact ⟨by simp, by simp⟩
  case win b lo n =>
    obtain ⟨t, l, hb, _, ⟨g', c, o, hg, rfl, _⟩ | ⟨_, _, rfl⟩⟩ := hx
    · refine ⟨by simp, fun _ g o n c he _ => ?_⟩
      simp only [Value.slice.injEq, Option.some.injEq, Addr.mk.injEq] at he
      rw [← he.1.1]
      exact block rfl hc (by simp [hb]) _ hg
    · exact ⟨by simp, by simp⟩

/-- The cells that a turn has watched. -/
def WRof (P : Program) (μ : Nat → Option Nat) (S : St) (av : List Nat) (t0 : Array Value) (s : Turn) (g k : Nat) : Prop :=
  ∃ e ∈ s.watch P S.E, S.H e.b ≠ .dead ∧ μ e.b = some g ∧ e.o ≤ k ∧ k < e.o + e.n ∧ ∀ d ∈ av, ∀ o', t0.getD d undef ≠ .pointer (some ⟨g, o', none⟩)

theorem unGs_of {E : Nat → AV} {x : Operand} {v : AV} {b o : Nat} (h : v = opd E x ∨ ∃ j c, v = unG j c (opd E x)) (hv : v = .ptr b o) : unGs (opd E x) = .ptr b o := by
  subst hv
  rcases h with h | ⟨j, c, h⟩
  · rw [← h]; rfl
  · cases hE : opd E x <;> simp only [hE, unG, reduceCtorEq] at h
    · simp only [AV.ptr.injEq] at h; obtain ⟨rfl, rfl⟩ := h; rfl
    · rename_i j' w' y
      cases hb : (Nat.beq j' j && w' == c) with
      | false => simp [hb] at h
      | true =>
        simp only [hb, cond_true] at h
        cases y <;> simp only [noGd, reduceCtorEq] at h
        simp only [AV.ptr.injEq] at h; obtain ⟨rfl, rfl⟩ := h; rfl

theorem chk_free {s : Turn} (hr : Rg F μ done S a w) {ρA : Operand → AV} (hρ : ∀ x, RelG w (Not F μ S.H) μ S.H a.eval (ρA x) (a.eval x)) (hrd : Reads S.E ρA) (hc : s.chk s.o.op ρA S.E = true) :
    FreeOp P (fun g k => XK a.tmps s.wilds s.avoid (Trk μ S.H) g ∧ ¬ WRof P μ S s.avoid a.tmps s g k) a.eval s.o.op := by
  cases hop : s.o.op <;> rw [hop] at hc <;> simp only [FreeOp] <;> simp only [Turn.chk] at hc
  case load t x =>
    intro g o hv k hk ⟨hX, hW⟩
    have hfree : (isNilN s.wilds || isPtr (ρA x)) = true → s.wilds = [] ∨ isPtr (ρA x) = true := fun h => by
      rw [Bool.or_eq_true] at h
      exact h.imp isNilN_eq id
    rcases (addr_free hr hc hfree (hρ x).rel).1 g o hv with h | ⟨b, h1, h2, h3, h4⟩
    · exact h hX
    · by_cases hw : s.wilds = []
      · rcases hX with ⟨h5, _⟩ | ⟨d, hd, o', ho'⟩
        · exact h5 hw
        · exact h4 d hd o' ho'
      · refine hW ⟨⟨s.wilds, b, o, loadN P t⟩, ?_, h2, h3, ?_, ?_, h4⟩
        · have hn : isNilN s.wilds = false := by cases hs : s.wilds <;> first | exact absurd hs hw | rfl
          simp only [Turn.watch, hn, cond_false, hop, unGs_of (hrd x) h1, List.mem_singleton]
        · rcases hk with rfl | ⟨h, _⟩
          · exact Nat.le_refl _
          · exact h
        · simp only [loadN]
          by_cases h0 : P.cellsOf t = 0
          · rw [h0] at hk ⊢
            simp only [Nat.beq_refl, cond_true]
            omega
          · have : Nat.beq (P.cellsOf t) 0 = false := Bool.eq_false_iff.2 fun e => h0 (Nat.eq_of_beq_eq_true e)
            rw [this, cond_false]
            omega
  case convert src dst x =>
    intro g o n c hv hn k ⟨hX, _⟩
    have hnp : isPtr (ρA x) = false := by
      have hrel := (hρ x).rel
      cases hx : ρA x <;> first | rfl | skip
      rw [hx] at hrel
      simp only [RelV] at hrel
      obtain ⟨_, g', _, he⟩ := hrel
      rw [hv] at he; cases he
    exact (addr_free (wild := s.wilds) hr hc (fun h => .inl (isNilN_eq h)) (hρ x).rel).2 hnp g o n c hv hn hX

end
end Go.Ev
