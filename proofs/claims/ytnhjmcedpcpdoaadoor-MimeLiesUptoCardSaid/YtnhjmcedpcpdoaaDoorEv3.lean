/- The operations that only yield a value. -/
import Derived.Test.YtnhjmcedpcpdoaaDoorEv2
import Derived.Laws.Cells
import Derived.Laws.Slices
import Derived.Laws.StructEq
import Derived.Laws.Strings2
import Derived.Laws.Concat
namespace Go.Ev
open Go

/-- What was there, but for the cells of X, is as it was. -/
structure Agr (X : Nat → Nat → Prop) (w w' : World) : Prop where
  at_ : ∀ g o, ¬ X g o → ∀ v, w.cell? ⟨g, o, none⟩ = some v → w'.cell? ⟨g, o, none⟩ = some v
theorem Agr.refl {X : Nat → Nat → Prop} (w : World) : Agr X w w := ⟨fun _ _ _ _ h => h⟩
theorem Agr.cell {X : Nat → Nat → Prop} {w w' : World} (h : Agr X w w') {g o : Nat} (hg : ¬ X g o) {v : Value} (hc : w.cell? ⟨g, o, none⟩ = some v) : w'.cell? ⟨g, o, none⟩ = some v := h.at_ g o hg v hc
theorem Agr.row {X : Nat → Nat → Prop} {w w' : World} (h : Agr X w w') {g o : Nat} {vs : List Value} (hg : ∀ k, o ≤ k → k < o + vs.length → ¬ X g k) (hr : rowAt w g o vs) : rowAt w' g o vs :=
  fun i hi => h.cell (hg (o + i) (by omega) (by omega)) (hr i hi)

/-- What an operation yields in every world that agrees with this one on what is there, but for X. -/
def Yields (P : Program) (X : Nat → Nat → Prop) (w : World) (ρ : Operand → Value) (op : Op) (val : Value) : Prop :=
  ∀ o : Oper, o.op = op → ∀ w', Agr X w w' → (execOp ρ o).run P w' = .ok (.value val) w'

/-- An operation does not read the cells of X. -/
def FreeOp (P : Program) (X : Nat → Nat → Prop) (ρ : Operand → Value) : Op → Prop
  | .load t a => ∀ g o, ρ a = .pointer (some ⟨g, o, none⟩) → ∀ k, k = o ∨ (o ≤ k ∧ k < o + P.cellsOf t) → ¬ X g k
  | .convert _ _ x => ∀ g o n c, ρ x = .slice (some ⟨g, o, none⟩) n c → 0 < n → ∀ k, ¬ X g k
  | _ => True

theorem FreeOp.none {P : Program} {ρ : Operand → Value} {op : Op} : FreeOp P (fun _ _ => False) ρ op := by
  cases op <;> simp [FreeOp]

section
variable {P : Program} {X : Nat → Nat → Prop} {w : World} {N : Nat → Prop} {μ : Nat → Option Nat} {H : Nat → Blk} {α : Type} {r : α}

theorem cond_some {c : Bool} {x : Option α} {r : α} (h : cond c x none = some r) : c = true ∧ x = some r := by
  cases c <;> simp_all

theorem absCell_ok : ∀ v, RelV w N μ H (absCell v) v := by
  intro v
  cases v with
  | int k n =>
    cases k <;> simp only [absCell, RelV]
    cases hc : (decide (0 ≤ n) && decide (n < 256)) with
    | false => simp [RelV]
    | true =>
      simp at hc
      simp only [cond_true, RelV]
      congr 1
      have : (UInt8.ofNat n.toNat).toNat = n.toNat := by
        rw [UInt8.toNat_ofNat']; omega
      rw [this]; omega
  | string s => simp [absCell, RelV]
  | _ => simp [absCell, RelV]

theorem absCells_ok : ∀ vs : List Value, RelVs w N μ H (vs.map absCell) vs
  | [] => by simp [RelVs]
  | v :: r => by simp only [List.map_cons, RelVs]; exact ⟨v, r, rfl, absCell_ok v, absCells_ok r⟩

theorem absV_ok (v : Value) : RelV w N μ H (absV v) v := by
  cases v with
  | agg cs => simp only [absV, RelV]; exact ⟨cs.toList, by simp, absCells_ok _⟩
  | _ => simp only [absV]; exact absCell_ok _

theorem RelG_of {ρ : Operand → Value} {x : AV} {v : Value} (hx : noGd x = x) (h : RelV w N μ H x v) : RelG w N μ H ρ x v := by
  cases x <;> first | exact h | (simp [noGd] at hx)

theorem absCell_ng (v : Value) : noGd (absCell v) = absCell v := by
  cases v with
  | int k n => cases k <;> simp only [absCell, noGd] <;> (cases (decide (0 ≤ n) && decide (n < 256)) <;> rfl)
  | _ => simp [absCell, noGd]
theorem absV_ng (v : Value) : noGd (absV v) = absV v := by
  cases v with
  | agg cs => simp [absV, noGd]
  | _ => simp only [absV]; exact absCell_ng _

theorem opd_ok {E : Nat → AV} {a : Act} (hE : RelE w N μ H E a.tmps) (x : Operand) : RelG w N μ H a.eval (opd E x) (a.eval x) := by
  cases x with
  | tmp t =>
    have h := hE t
    simp only [opd, Act.eval] at h ⊢
    cases hx : E t <;> simp only [hx] at h <;> simp only [RelG] <;> try exact h
    intro hj
    simp only [Act.eval] at hj
    rcases h with ⟨_, h2⟩ | ⟨h1, _⟩
    · exact h2
    · exact absurd hj h1
  | const v => exact RelG_of (absV_ng v) (absV_ok v)
  | global g => simp [opd, RelG, RelV]
  | func f => simp [opd, RelG, RelV, Act.eval, RelVs]

/-- Plain values: what the relation says without a guard. -/
theorem RelG.i {ρ : Operand → Value} {k : IntKind} {n : Int} {v : Value} (h : RelG w N μ H ρ (.i k n) v) : v = .int k n := by simpa [RelG, RelV] using h

/-! The world's part of types. -/
theorem info_of_underlying {t : TypeId} {d : TypeDesc} (h : P.underlying t = some d) : ∃ i, P.info? t = some i ∧ P.cellsOf t = i.size := by
  unfold Program.underlying at h
  cases hi : P.info? t with
  | none => simp [hi] at h
  | some i => exact ⟨i, rfl, by simp [Program.cellsOf, hi]⟩

theorem run_sizeOf {t : TypeId} {i : TypeInfo} (h : P.info? t = some i) (w : World) : (sizeOf t).run P w = .ok i.size w := by
  simp [sizeOf, typeInfo, h]

theorem run_sizeOf' {t : TypeId} {d : TypeDesc} (h : P.underlying t = some d) (w : World) : (sizeOf t).run P w = .ok (P.cellsOf t) w := by
  obtain ⟨i, hi, hc⟩ := info_of_underlying h
  rw [run_sizeOf hi, hc]

theorem run_isAgg {t : TypeId} {d : TypeDesc} (h : P.underlying t = some d) (w : World) : (isAgg t).run P w = .ok (isAggB P t) w := by
  unfold isAgg isAggB
  rw [Sem.run_bind, run_underlying h w, h]
  cases d <;> simp

theorem add_none (g o n : Nat) : (⟨g, o, none⟩ : Addr).add n = ⟨g, o + n, none⟩ := by
  unfold Addr.add; split <;> simp_all

theorem run_cells {w : World} {g o : Nat} {vs : List Value} (h : rowAt w g o vs) : (loadCells ⟨g, o, none⟩ vs.length).run P w = .ok vs.toArray w := by
  refine run_loadCells_list w _ vs fun j v hv => ?_
  rw [add_none]
  obtain ⟨hj, rfl⟩ := List.getElem?_eq_some_iff.1 hv
  exact h j hj

theorem rowAt_sub {w : World} {g o : Nat} {vs : List Value} (h : rowAt w g o vs) (k n : Nat) : rowAt w g (o + k) ((vs.drop k).take n) := by
  intro i hi
  simp only [List.length_take, List.length_drop] at hi
  have := h (k + i) (by omega)
  rw [Nat.add_assoc, this]
  simp

theorem cellsAt_ok {cs : List AV} {vs : List Value} {o n : Nat} {ag : Bool} {K : AV → Option α} {g b : Nat}
    (hr : RelVs w N μ H cs vs) (hrow : rowAt w g b vs) (h : cellsAt cs o n ag K = some r) :
    ∃ v val, K v = some r ∧ RelV w N μ H v val ∧
      ((ag = true ∧ ∃ us : List Value, val = .agg us.toArray ∧ us.length = n ∧ rowAt w g (b + o) us) ∨
       (ag = false ∧ w.cell? ⟨g, b + o, none⟩ = some val)) := by
  unfold cellsAt at h
  cases ag with
  | true =>
    simp only [cond_true] at h
    obtain ⟨hb, hK⟩ := cond_some h
    have hle : o + n ≤ cs.length := Nat.le_of_ble_eq_true hb
    have hlen := RelVs_length hr
    refine ⟨_, .agg ((vs.drop o).take n).toArray, hK, ?_, .inl ⟨rfl, _, rfl, ?_, rowAt_sub hrow o n⟩⟩
    · simp only [RelV]
      exact ⟨_, rfl, RelVs_take n (RelVs_drop o hr)⟩
    · simp; omega
  | false =>
    simp only [cond_false] at h
    have hd := RelVs_drop o hr
    cases hx : cs.drop o with
    | nil => simp [hx] at h
    | cons x rest =>
      simp only [hx] at h hd
      simp only [RelVs] at hd
      obtain ⟨v, vr, hv, h1, _⟩ := hd
      refine ⟨x, v, h, h1, .inr ⟨rfl, ?_⟩⟩
      have hlt : o < vs.length := by
        rcases Nat.lt_or_ge o vs.length with h | h
        · exact h
        · rw [List.drop_eq_nil_of_le h] at hv; cases hv
      have := hrow o hlt
      rw [this]
      congr 1
      have h2 : (vs.drop o)[0]? = some v := by rw [hv]; rfl
      simp at h2
      obtain ⟨_, h3⟩ := List.getElem?_eq_some_iff.1 h2
      exact h3

theorem run_loadVar_of {t : TypeId} {d : TypeDesc} (hu : P.underlying t = some d) {w : World} {g o : Nat} {val : Value}
    (h : (isAggB P t = true ∧ ∃ us : List Value, val = .agg us.toArray ∧ us.length = P.cellsOf t ∧ rowAt w g o us) ∨ (isAggB P t = false ∧ w.cell? ⟨g, o, none⟩ = some val)) :
    (loadVar t ⟨g, o, none⟩).run P w = .ok val w := by
  unfold loadVar
  rw [Sem.run_bind, run_isAgg hu]
  rcases h with ⟨h1, us, rfl, h2, h3⟩ | ⟨h1, h2⟩
  · have hc := run_cells (P := P) h3
    simp only [h1, Result.andThen_ok, if_true, Sem.run_bind, run_sizeOf' hu, ← h2, hc, Sem.run_pure]
  · simp [h1, h2]

/-- Loading. -/
theorem loadAV_ok {T : Tb} {F : Frm T} {nx : Nat} (hp : Hp F μ H nx w) {t : TypeId} {x : AV} {v : Value} {K : AV → Option α} (hx : RelV w (Not F μ H) μ H x v)
    (hX : ∀ g o, v = .pointer (some ⟨g, o, none⟩) → ∀ k, k = o ∨ (o ≤ k ∧ k < o + P.cellsOf t) → ¬ X g k) (h : loadAV P t x H K = some r) : ∃ y val, K y = some r ∧ RelV w (Not F μ H) μ H y val ∧ ∀ w', Agr X w w' → (Instr.loadAt t v).run P w' = .ok val w' := by
  unfold loadAV at h
  cases hu : P.underlying t with
  | none => simp [hu] at h
  | some d =>
    simp only [hu] at h
    cases x <;> simp only [reduceCtorEq] at h
    case ptr b o =>
      cases hb : H b <;> simp only [hb, reduceCtorEq] at h
      rename_i cs
      have hB := hp.blk b
      simp only [hb, RelB] at hB
      simp only [RelV] at hx
      obtain ⟨_, g', hg', rfl⟩ := hx
      rcases hB with hB | ⟨g, vs, hg, hr, hrow, _⟩
      · rw [hB] at hg'; cases hg'
      rw [hg] at hg'; cases hg'
      obtain ⟨y, val, hK, hy, hc⟩ := cellsAt_ok hr hrow h
      refine ⟨y, val, hK, hy, fun w' hw => ?_⟩
      simp only [Instr.loadAt, Instr.sureAddr, Sem.run_bind, Sem.run_pure, Result.andThen_ok]
      refine run_loadVar_of hu ?_
      simp only [Nat.zero_add] at hc
      rcases hc with ⟨h1, us, h2, h3, h4⟩ | ⟨h1, h2⟩
      · exact .inl ⟨h1, us, h2, h3, hw.row (fun k k1 k2 => hX _ _ rfl k (.inr ⟨k1, by rw [h3] at k2; exact k2⟩)) h4⟩
      · exact .inr ⟨h1, hw.cell (hX _ _ rfl _ (.inl rfl)) h2⟩
    case ep b t' ix f =>
      simp only [RelV] at hx
      obtain ⟨l, g, hb, hix, hg, rfl⟩ := hx
      simp only [hb, decide_true, cond_true] at h
      have hB := hp.blk b
      simp only [hb, RelB] at hB
      rcases hB with ⟨_, rfl⟩ | ⟨g', hg', _, hrow⟩
      · simp at hix
      rw [hg] at hg'; cases hg'
      obtain ⟨es, he1, he2, he3⟩ := hrow ix hix
      have hgd : l.getD ix t'.dflt = l[ix] := by simp [List.getD, List.getElem?_eq_getElem hix]
      rw [hgd] at h
      obtain ⟨y, val, hK, hy, hc⟩ := cellsAt_ok (RelVs_encc he3) he2 h
      refine ⟨y, val, hK, hy, fun w' hw => ?_⟩
      simp only [Instr.loadAt, Instr.sureAddr, Sem.run_bind, Sem.run_pure, Result.andThen_ok]
      refine run_loadVar_of hu ?_
      rcases hc with ⟨h1, us, h2, h3, h4⟩ | ⟨h1, h2⟩
      · exact .inl ⟨h1, us, h2, h3, hw.row (fun k k1 k2 => hX _ _ rfl k (.inr ⟨k1, by rw [h3] at k2; exact k2⟩)) h4⟩
      · exact .inr ⟨h1, hw.cell (hX _ _ rfl _ (.inl rfl)) h2⟩
    case fp t' l ix f =>
      simp only [RelV] at hx
      obtain ⟨hix, g, o, hn, hlt, rfl, es, he1, he2, _, he3⟩ := hx
      have hgd : l.getD ix t'.dflt = l[ix] := by simp [List.getD, List.getElem?_eq_getElem hix]
      rw [hgd] at h
      obtain ⟨y, val, hK, hy, hc⟩ := cellsAt_ok (RelVs_encc he3) he2 h
      refine ⟨y, val, hK, hy, fun w' hw => ?_⟩
      simp only [Instr.loadAt, Instr.sureAddr, Sem.run_bind, Sem.run_pure, Result.andThen_ok]
      refine run_loadVar_of hu ?_
      rcases hc with ⟨h1, us, h2, h3, h4⟩ | ⟨h1, h2⟩
      · exact .inl ⟨h1, us, h2, h3, hw.row (fun k k1 k2 => hX _ _ rfl k (.inr ⟨k1, by rw [h3] at k2; exact k2⟩)) h4⟩
      · exact .inr ⟨h1, hw.cell (hX _ _ rfl _ (.inl rfl)) h2⟩

end
end Go.Ev
