/- The operations that only yield a value. -/
import Derived.Test.YtgfecebcaepjfaaGreatDoorEv2
import Derived.Laws.Cells
import Derived.Laws.Slices
import Derived.Laws.StructEq
import Derived.Laws.Strings2
import Derived.Laws.Concat
import Derived.Laws.BytesString
namespace Go.Ev
open Go

/-- What was there, but for the cells of X, is as it was. -/
structure Agr (X : Nat → Nat → Prop) (w w' : World) : Prop where
  at_ : ∀ g o, ¬ X g o → ∀ v, w.cell? ⟨g, o, none⟩ = some v → w'.cell? ⟨g, o, none⟩ = some v
theorem Agr.refl {X : Nat → Nat → Prop} (w : World) : Agr X w w := ⟨fun _ _ _ _ h => h⟩
theorem Agr.cell {X : Nat → Nat → Prop} {w w' : World} (h : Agr X w w') {g o : Nat} (hg : ¬ X g o) {v : Value} (hc : w.cell? ⟨g, o, none⟩ = some v) : w'.cell? ⟨g, o, none⟩ = some v := h.at_ g o hg v hc
theorem Agr.row {X : Nat → Nat → Prop} {w w' : World} (h : Agr X w w') {g o : Nat} {vs : List Value} (hg : ∀ k, o ≤ k → k < o + vs.length → ¬ X g k) (hr : rowAt w g o vs) : rowAt w' g o vs :=
  fun i hi => h.cell (hg (o + i) (by omega) (by omega)) (hr i hi)

/-- What an operation yields in every world that agrees with this one on what is there, but for X. -/
def Yields (P : Program) (X : Nat → Nat → Prop) (w : World) (ρ : Operand → Value) (op : Op) (val : Value) : Prop :=
  ∀ o : Oper, o.op = op → ∀ w', Agr X w w' → (execOp ρ o).run P w' = .ok (.value val) w'

/-- An operation does not read the cells of X. -/
def FreeOp (P : Program) (X : Nat → Nat → Prop) (ρ : Operand → Value) : Op → Prop
  | .load t a => ∀ g o, ρ a = .pointer (some ⟨g, o, none⟩) → ∀ k, k = o ∨ (o ≤ k ∧ k < o + P.cellsOf t) → ¬ X g k
  | .convert _ _ x => ∀ g o n c, ρ x = .slice (some ⟨g, o, none⟩) n c → 0 < n → ∀ k, ¬ X g k
  | _ => True

theorem FreeOp.none {P : Program} {ρ : Operand → Value} {op : Op} : FreeOp P (fun _ _ => False) ρ op := by
  cases op <;> simp [FreeOp]

section
variable {P : Program} {X : Nat → Nat → Prop} {w : World} {N : Nat → Prop} {μ : Nat → Option Nat} {H : Nat → Blk} {α : Type} {r : α}

theorem cond_some {c : Bool} {x : Option α} {r : α} (h : cond c x none = some r) : c = true ∧ x = some r := by
  cases c <;> simp_all

theorem absCell_ok : ∀ v, RelV w N μ H (absCell v) v := by
  intro v
  cases v with
  | int k n =>
    cases k <;> simp only [absCell, RelV]
    cases hc : (decide (0 ≤ n) && decide (n < 256)) with
    | false => simp [RelV]
    | true =>
      simp at hc
      simp only [cond_true, RelV]
      congr 1
      have : (UInt8.ofNat n.toNat).toNat = n.toNat := by
        rw [UInt8.toNat_ofNat']; omega
      rw [this]; omega
  | string s => simp [absCell, RelV]
  | _ => simp [absCell, RelV]

theorem absCells_ok : ∀ vs : List Value, RelVs w N μ H (vs.map absCell) vs
  | [] => by simp [RelVs]
  | v :: r => by simp only [List.map_cons, RelVs]; exact ⟨v, r, rfl, absCell_ok v, absCells_ok r⟩

theorem absV_ok (v : Value) : RelV w N μ H (absV v) v := by
  cases v with
  | agg cs => simp only [absV, RelV]; exact ⟨cs.toList, by simp, absCells_ok _⟩
  | _ => simp only [absV]; exact absCell_ok _

theorem RelG_of {ρ : Operand → Value} {x : AV} {v : Value} (hx : noGd x = x) (h : RelV w N μ H x v) : RelG w N μ H ρ x v := by
  cases x <;> first | exact h | (simp [noGd] at hx)

theorem absCell_ng (v : Value) : noGd (absCell v) = absCell v := by
  cases v with
  | int k n => cases k <;> simp only [absCell, noGd] <;> (cases (decide (0 ≤ n) && decide (n < 256)) <;> rfl)
  | _ => simp [absCell, noGd]
theorem absV_ng (v : Value) : noGd (absV v) = absV v := by
  cases v with
  | agg cs => simp [absV, noGd]
  | _ => simp only [absV]; exact absCell_ng _

theorem opd_ok {E : Nat → AV} {a : Act} (hE : RelE w N μ H E a.tmps) (x : Operand) : RelG w N μ H a.eval (opd E x) (a.eval x) := by
  cases x with
  | tmp t =>
    have h := hE t
    simp only [opd, Act.eval] at h ⊢
    cases hx : E t <;> simp only [hx] at h <;> simp only [RelG] <;> try exact h
    intro hj
    simp only [Act.eval] at hj
    rcases h with ⟨_, h2⟩ | ⟨h1, _⟩
    · exact h2
    · exact absurd hj h1
  | const v => exact RelG_of (absV_ng v) (absV_ok v)
  | global g => simp [opd, RelG, RelV]
  | func f => simp [opd, RelG, RelV, Act.eval, RelVs]

/-- Plain values: what the relation says without a guard. -/
theorem RelG.i {ρ : Operand → Value} {k : IntKind} {n : Int} {v : Value} (h : RelG w N μ H ρ (.i k n) v) : v = .int k n := by simpa [RelG, RelV] using h

/-! The world's part of types. -/
theorem info_of_underlying {t : TypeId} {d : TypeDesc} (h : P.underlying t = some d) : ∃ i, P.info? t = some i ∧ P.cellsOf t = i.size := by
  unfold Program.underlying at h
  cases hi : P.info? t with
  | none => simp [hi] at h
  | some i => exact ⟨i, rfl, by simp [Program.cellsOf, hi]⟩

theorem run_sizeOf {t : TypeId} {i : TypeInfo} (h : P.info? t = some i) (w : World) : (sizeOf t).run P w = .ok i.size w := by
  simp [sizeOf, typeInfo, h]

theorem run_sizeOf' {t : TypeId} {d : TypeDesc} (h : P.underlying t = some d) (w : World) : (sizeOf t).run P w = .ok (P.cellsOf t) w := by
  obtain ⟨i, hi, hc⟩ := info_of_underlying h
  rw [run_sizeOf hi, hc]

theorem run_isAgg {t : TypeId} {d : TypeDesc} (h : P.underlying t = some d) (w : World) : (isAgg t).run P w = .ok (isAggB P t) w := by
  unfold isAgg isAggB
  rw [Sem.run_bind, run_underlying h w, h]
  cases d <;> simp

theorem add_none (g o n : Nat) : (⟨g, o, none⟩ : Addr).add n = ⟨g, o + n, none⟩ := by
  unfold Addr.add; split <;> simp_all

theorem run_cells {w : World} {g o : Nat} {vs : List Value} (h : rowAt w g o vs) : (loadCells ⟨g, o, none⟩ vs.length).run P w = .ok vs.toArray w := by
  refine run_loadCells_list w _ vs fun j v hv => ?_
  rw [add_none]
  obtain ⟨hj, rfl⟩ := List.getElem?_eq_some_iff.1 hv
  exact h j hj

theorem rowAt_sub {w : World} {g o : Nat} {vs : List Value} (h : rowAt w g o vs) (k n : Nat) : rowAt w g (o + k) ((vs.drop k).take n) := by
  intro i hi
  simp only [List.length_take, List.length_drop] at hi
  have := h (k + i) (by omega)
  rw [Nat.add_assoc, this]
  simp

theorem cellsAt_ok {cs : List AV} {vs : List Value} {o n : Nat} {ag : Bool} {K : AV → Option α} {g b : Nat}
    (hr : RelVs w N μ H cs vs) (hrow : rowAt w g b vs) (h : cellsAt cs o n ag K = some r) :
    ∃ v val, K v = some r ∧ RelV w N μ H v val ∧
      ((ag = true ∧ ∃ us : List Value, val = .agg us.toArray ∧ us.length = n ∧ rowAt w g (b + o) us) ∨
       (ag = false ∧ w.cell? ⟨g, b + o, none⟩ = some val)) := by
  unfold cellsAt at h
  cases ag with
  | true =>
    simp only [cond_true] at h
    obtain ⟨hb, hK⟩ := cond_some h
    have hle : o + n ≤ cs.length := Nat.le_of_ble_eq_true hb
    have hlen := RelVs_length hr
    refine ⟨_, .agg ((vs.drop o).take n).toArray, hK, ?_, .inl ⟨rfl, _, rfl, ?_, rowAt_sub hrow o n⟩⟩
    · simp only [RelV]
      exact ⟨_, rfl, RelVs_take n (RelVs_drop o hr)⟩
    · simp; omega
  | false =>
    simp only [cond_false] at h
    have hd := RelVs_drop o hr
    cases hx : cs.drop o with
    | nil => simp [hx] at h
    | cons x rest =>
      simp only [hx] at h hd
      simp only [RelVs] at hd
      obtain ⟨v, vr, hv, h1, _⟩ := hd
      refine ⟨x, v, h, h1, .inr ⟨rfl, ?_⟩⟩
      have hlt : o < vs.length := by
        rcases Nat.lt_or_ge o vs.length with h | h
        · exact h
        · rw [List.drop_eq_nil_of_le h] at hv; cases hv
      have := hrow o hlt
      rw [this]
      congr 1
      have h2 : (vs.drop o)[0]? = some v := by rw [hv]; rfl
      simp at h2
      obtain ⟨_, h3⟩ := List.getElem?_eq_some_iff.1 h2
      exact h3

theorem run_loadVar_of {t : TypeId} {d : TypeDesc} (hu : P.underlying t = some d) {w : World} {g o : Nat} {val : Value}
    (h : (isAggB P t = true ∧ ∃ us : List Value, val = .agg us.toArray ∧ us.length = P.cellsOf t ∧ rowAt w g o us) ∨ (isAggB P t = false ∧ w.cell? ⟨g, o, none⟩ = some val)) :
    (loadVar t ⟨g, o, none⟩).run P w = .ok val w := by
  unfold loadVar
  rw [Sem.run_bind, run_isAgg hu]
  rcases h with ⟨h1, us, rfl, h2, h3⟩ | ⟨h1, h2⟩
  · have hc := run_cells (P := P) h3
    simp only [h1, Result.andThen_ok, if_true, Sem.run_bind, run_sizeOf' hu, ← h2, hc, Sem.run_pure]
  · simp [h1, h2]

/-- Loading. -/
theorem loadAV_ok {T : Tb} {F : Frm T} {nx : Nat} (hp : Hp F μ H nx w) {t : TypeId} {x : AV} {v : Value} {K : AV → Option α} (hx : RelV w (Not F μ H) μ H x v)
    (hX : ∀ g o, v = .pointer (some ⟨g, o, none⟩) → ∀ k, k = o ∨ (o ≤ k ∧ k < o + P.cellsOf t) → ¬ X g k) (h : loadAV P t x H K = some r) : ∃ y val, K y = some r ∧ RelV w (Not F μ H) μ H y val ∧ ∀ w', Agr X w w' → (Instr.loadAt t v).run P w' = .ok val w' := by
  unfold loadAV at h
  cases hu : P.underlying t with
  | none => simp [hu] at h
  | some d =>
    simp only [hu] at h
    cases x <;> simp only [reduceCtorEq] at h
    case ptr b o =>
      cases hb : H b <;> simp only [hb, reduceCtorEq] at h
      rename_i cs
      have hB := hp.blk b
      simp only [hb, RelB] at hB
      simp only [RelV] at hx
      obtain ⟨_, g', hg', rfl⟩ := hx
      rcases hB with hB | ⟨g, vs, hg, hr, hrow, _⟩
      · rw [hB] at hg'; cases hg'
      rw [hg] at hg'; cases hg'
      obtain ⟨y, val, hK, hy, hc⟩ := cellsAt_ok hr hrow h
      refine ⟨y, val, hK, hy, fun w' hw => ?_⟩
      simp only [Instr.loadAt, Instr.sureAddr, Sem.run_bind, Sem.run_pure, Result.andThen_ok]
      refine run_loadVar_of hu ?_
      simp only [Nat.zero_add] at hc
      rcases hc with ⟨h1, us, h2, h3, h4⟩ | ⟨h1, h2⟩
      · exact .inl ⟨h1, us, h2, h3, hw.row (fun k k1 k2 => hX _ _ rfl k (.inr ⟨k1, by rw [h3] at k2; exact k2⟩)) h4⟩
      · exact .inr ⟨h1, hw.cell (hX _ _ rfl _ (.inl rfl)) h2⟩
    case ep b t' ix f =>
      simp only [RelV] at hx
      obtain ⟨l, g, hb, hix, hg, rfl⟩ := hx
      simp only [hb, decide_true, cond_true] at h
      have hB := hp.blk b
      simp only [hb, RelB] at hB
      rcases hB with ⟨_, rfl⟩ | ⟨g', hg', _, hrow⟩
      · simp at hix
      rw [hg] at hg'; cases hg'
      obtain ⟨es, he1, he2, he3⟩ := hrow ix hix
      have hgd : l.getD ix t'.dflt = l[ix] := by simp [List.getD, List.getElem?_eq_getElem hix]
      rw [hgd] at h
      obtain ⟨y, val, hK, hy, hc⟩ := cellsAt_ok (RelVs_encc he3) he2 h
      refine ⟨y, val, hK, hy, fun w' hw => ?_⟩
      simp only [Instr.loadAt, Instr.sureAddr, Sem.run_bind, Sem.run_pure, Result.andThen_ok]
      refine run_loadVar_of hu ?_
      rcases hc with ⟨h1, us, h2, h3, h4⟩ | ⟨h1, h2⟩
      · exact .inl ⟨h1, us, h2, h3, hw.row (fun k k1 k2 => hX _ _ rfl k (.inr ⟨k1, by rw [h3] at k2; exact k2⟩)) h4⟩
      · exact .inr ⟨h1, hw.cell (hX _ _ rfl _ (.inl rfl)) h2⟩
    case fp t' l ix f =>
      simp only [RelV] at hx
      obtain ⟨hix, g, o, hn, hlt, rfl, es, he1, he2, _, he3⟩ := hx
      have hgd : l.getD ix t'.dflt = l[ix] := by simp [List.getD, List.getElem?_eq_getElem hix]
      rw [hgd] at h
      obtain ⟨y, val, hK, hy, hc⟩ := cellsAt_ok (RelVs_encc he3) he2 h
      refine ⟨y, val, hK, hy, fun w' hw => ?_⟩
      simp only [Instr.loadAt, Instr.sureAddr, Sem.run_bind, Sem.run_pure, Result.andThen_ok]
      refine run_loadVar_of hu ?_
      rcases hc with ⟨h1, us, h2, h3, h4⟩ | ⟨h1, h2⟩
      · exact .inl ⟨h1, us, h2, h3, hw.row (fun k k1 k2 => hX _ _ rfl k (.inr ⟨k1, by rw [h3] at k2; exact k2⟩)) h4⟩
      · exact .inr ⟨h1, hw.cell (hX _ _ rfl _ (.inl rfl)) h2⟩

end
end Go.Ev

namespace Go.Ev
open Go
section
variable {P : Program} {w : World} {N : Nat → Prop} {μ : Nat → Option Nat} {H : Nat → Blk} {α : Type} {r : α}

theorem RelG.rel {ρ : Operand → Value} {x : AV} {v : Value} (h : RelG w N μ H ρ x v) : RelV w N μ H x v := by
  cases x <;> first | exact h | simp [RelV]

/-! Integers. -/
theorem wrap_i64_w64 (n : Int) : IntKind.i64.wrap n = w64 n := rfl

theorem wr_ok {k : IntKind} {n : Int} : RelV w N μ H (wr k n) (.int k (k.wrap n)) := by
  cases k <;> simp [wr, RelV, w64]

theorem u8_toNat (x : UInt8) : x.toNat < 256 := by have := x.toNat_lt; omega

theorem wrap_u8 (n : Int) : IntKind.u8.wrap n = n % 256 := by
  simp [IntKind.wrap, IntKind.bits, IntKind.signed]

theorem u8of_toNat (n : Int) : ((u8of n).toNat : Int) = IntKind.u8.wrap n := by
  rw [wrap_u8, u8of, UInt8.toNat_ofNat']
  omega

theorem eqGuard_int (op : BinOp) (t : TypeId) (x y : Operand) (a b : Value) (w : World) (h1 : ∀ cs, a ≠ .agg cs) (h2 : a ≠ .nilIface) : (eqGuard op t x y a b).run P w = .ok () w := by
  unfold eqGuard
  cases op <;> simp <;> (cases a <;> simp_all)

def BinYields (P : Program) (_w : World) (op : BinOp) (t : TypeId) (a b : Value) (val : Value) : Prop := ∀ w', True → ∀ x y : Operand, ((do eqGuard op t x y a b; binOp op t a b : Sem Value)).run P w' = .ok val w'

theorem yields_bin {X : Nat → Nat → Prop} {ρ : Operand → Value} {op : BinOp} {t : TypeId} {x y : Operand} {ty : TypeId} {val : Value} (h : BinYields P w op t (ρ x) (ρ y) val) : Yields P X w ρ (.binOp op t x y ty) val := by
  intro o ho w' hw
  have := h w' trivial x y
  simp only [execOp, ho, Sem.run_bind] at this ⊢
  generalize hq : ((eqGuard op t x y (ρ x) (ρ y)).run P w').andThen _ = q at this ⊢
  subst this
  simp

theorem binYields_of {op : BinOp} {t : TypeId} {a b val : Value} (h1 : ∀ cs, a ≠ .agg cs) (h2 : a ≠ .nilIface) (h : ∀ w', True → (binOp op t a b).run P w' = .ok val w') : BinYields P w op t a b val := by
  intro w' hw x y
  simp only [Sem.run_bind, eqGuard_int op t x y a b w' h1 h2, Result.andThen_ok, h w' trivial]

def intOp (op : BinOp) (k : IntKind) (x y : Int) : Sem Value :=
  match op with
  | .add | .sub | .mul => Op.intArith op k x y
  | .quo | .rem => Op.intDiv op k x y
  | .and | .or | .xor | .andNot => Op.intBits op k x y
  | _ => Op.intCmp op x y

theorem binOp_int {op : BinOp} {t : TypeId} {k : IntKind} {x y : Int} (h1 : op ≠ .shl) (h2 : op ≠ .shr) : binOp op t (.int k x) (.int k y) = intOp op k x y := by
  cases op <;> first | exact absurd rfl h1 | exact absurd rfl h2 | simp [binOp, intOp]

theorem intBin_ok {op : BinOp} {t : TypeId} {k : IntKind} {x y : Int} {K : AV → Option α} (h : intBin op k x y K = some r) :
    ∃ v val, K v = some r ∧ RelV w N μ H v val ∧ BinYields P w op t (.int k x) (.int k y) val := by
  have key : ∀ (hs : op ≠ .shl) (hs' : op ≠ .shr) (val : Value), (∀ w', (intOp op k x y).run P w' = .ok val w') → BinYields P w op t (.int k x) (.int k y) val := fun hs hs' val hh =>
    binYields_of (by simp) (by simp) fun w' _ => by rw [binOp_int hs hs']; exact hh w'
  cases op <;> simp only [intBin, reduceCtorEq] at h
  case add => exact ⟨_, _, h, wr_ok, key (by simp) (by simp) _ fun w' => by simp [intOp, Op.intArith]⟩
  case sub => exact ⟨_, _, h, wr_ok, key (by simp) (by simp) _ fun w' => by simp [intOp, Op.intArith]⟩
  case mul => exact ⟨_, _, h, wr_ok, key (by simp) (by simp) _ fun w' => by simp [intOp, Op.intArith]⟩
  case and => exact ⟨_, .int k (bitsOf .and k x y), h, by simp [RelV], key (by simp) (by simp) _ fun w' => by simp [intOp, Op.intBits, bitsOf]⟩
  case or => exact ⟨_, .int k (bitsOf .or k x y), h, by simp [RelV], key (by simp) (by simp) _ fun w' => by simp [intOp, Op.intBits, bitsOf]⟩
  case xor => exact ⟨_, .int k (bitsOf .xor k x y), h, by simp [RelV], key (by simp) (by simp) _ fun w' => by simp [intOp, Op.intBits, bitsOf]⟩
  case andNot => exact ⟨_, .int k (bitsOf .andNot k x y), h, by simp [RelV], key (by simp) (by simp) _ fun w' => by simp [intOp, Op.intBits, bitsOf]⟩
  all_goals refine ⟨_, _, h, by simp only [RelV]; rfl, key (by simp) (by simp) _ fun w' => ?_⟩
  · simp [intOp, Op.intCmp]; rfl
  · simp [intOp, Op.intCmp, bne]; rfl
  · simp [intOp, Op.intCmp]
  · simp [intOp, Op.intCmp]
  · simp [intOp, Op.intCmp]
  · simp [intOp, Op.intCmp]

theorem u8Bin_ok {op : BinOp} {t : TypeId} {x y : UInt8} {K : AV → Option α} (h : u8Bin op x y K = some r) :
    ∃ v val, K v = some r ∧ RelV w N μ H v val ∧ BinYields P w op t (.int .u8 (x.toNat : Int)) (.int .u8 (y.toNat : Int)) val := by
  have hx := u8_toNat x
  have hy := u8_toNat y
  have key : ∀ (hs : op ≠ .shl) (hs' : op ≠ .shr) (val : Value), (∀ w', (intOp op .u8 (x.toNat : Int) (y.toNat : Int)).run P w' = .ok val w') → BinYields P w op t (.int .u8 (x.toNat : Int)) (.int .u8 (y.toNat : Int)) val := fun hs hs' val hh =>
    binYields_of (by simp) (by simp) fun w' _ => by rw [binOp_int hs hs']; exact hh w'
  have eqb : ((x.toNat : Int) == (y.toNat : Int)) = decide (x = y) := by
    rw [Bool.eq_iff_iff]; simp only [beq_iff_eq, decide_eq_true_eq]
    exact ⟨fun h => UInt8.toNat_inj.1 (by omega), fun h => by rw [h]⟩
  have back : ∀ v : BitVec 8, (IntKind.u8.wrap (v.toNat : Int)) = ((UInt8.ofBitVec v).toNat : Int) := fun v => by
    rw [wrap_u8]; have := v.isLt; show _ = (v.toNat : Int); omega
  have bv : ∀ z : UInt8, BitVec.ofInt 8 (z.toNat : Int) = z.toBitVec := fun z => by
    rw [BitVec.ofInt_natCast]
    apply BitVec.eq_of_toNat_eq
    rw [BitVec.toNat_ofNat, ← UInt8.toNat_toBitVec]
    have := z.toBitVec.isLt
    omega
  cases op <;> simp only [u8Bin, reduceCtorEq] at h
  case add => exact ⟨_, _, h, by simp only [RelV]; rfl, key (by simp) (by simp) _ fun w' => by
      simp only [intOp, Op.intArith, Sem.run_pure]; refine congrArg (fun z => Result.ok (Value.int .u8 z) w') ?_; rw [wrap_u8, UInt8.toNat_add]; try omega⟩
  case sub => exact ⟨_, _, h, by simp only [RelV]; rfl, key (by simp) (by simp) _ fun w' => by
      simp only [intOp, Op.intArith, Sem.run_pure]; refine congrArg (fun z => Result.ok (Value.int .u8 z) w') ?_; rw [wrap_u8, UInt8.toNat_sub]; try omega⟩
  case mul => exact ⟨_, _, h, by simp only [RelV]; rfl, key (by simp) (by simp) _ fun w' => by
      simp only [intOp, Op.intArith, Sem.run_pure]; refine congrArg (fun z => Result.ok (Value.int .u8 z) w') ?_; rw [wrap_u8, UInt8.toNat_mul]; try simp⟩
  case and => exact ⟨_, _, h, by simp only [RelV]; rfl, key (by simp) (by simp) _ fun w' => by
      simp only [intOp, Op.intBits, Sem.run_pure]; congr 1; congr 1; show IntKind.u8.wrap (((BitVec.ofInt 8 (x.toNat : Int) &&& BitVec.ofInt 8 (y.toNat : Int) : BitVec 8).toNat : Nat) : Int) = _; rw [back, bv, bv]; rfl⟩
  case or => exact ⟨_, _, h, by simp only [RelV]; rfl, key (by simp) (by simp) _ fun w' => by
      simp only [intOp, Op.intBits, Sem.run_pure]; congr 1; congr 1; show IntKind.u8.wrap (((BitVec.ofInt 8 (x.toNat : Int) ||| BitVec.ofInt 8 (y.toNat : Int) : BitVec 8).toNat : Nat) : Int) = _; rw [back, bv, bv]; rfl⟩
  case xor => exact ⟨_, _, h, by simp only [RelV]; rfl, key (by simp) (by simp) _ fun w' => by
      simp only [intOp, Op.intBits, Sem.run_pure]; congr 1; congr 1; show IntKind.u8.wrap (((BitVec.ofInt 8 (x.toNat : Int) ^^^ BitVec.ofInt 8 (y.toNat : Int) : BitVec 8).toNat : Nat) : Int) = _; rw [back, bv, bv]; rfl⟩
  case andNot => exact ⟨_, _, h, by simp only [RelV]; rfl, key (by simp) (by simp) _ fun w' => by
      simp only [intOp, Op.intBits, Sem.run_pure]; congr 1; congr 1; show IntKind.u8.wrap (((BitVec.ofInt 8 (x.toNat : Int) &&& ~~~ BitVec.ofInt 8 (y.toNat : Int) : BitVec 8).toNat : Nat) : Int) = _; rw [back, bv, bv]; rfl⟩
  all_goals refine ⟨_, _, h, by simp only [RelV]; rfl, key (by simp) (by simp) _ fun w' => ?_⟩
  · simp only [intOp, Op.intCmp, Sem.run_pure, eqb]
  · simp only [intOp, Op.intCmp, Sem.run_pure, bne, eqb]
  · simp [intOp, Op.intCmp]
  · simp [intOp, Op.intCmp]
  · simp [intOp, Op.intCmp]
  · simp [intOp, Op.intCmp]

theorem bytes_eq (x y : List UInt8) : ((⟨x.toArray⟩ : ByteArray).toList == (⟨y.toArray⟩ : ByteArray).toList) = decide (x = y) := by
  simp [ByteArray.toList_mk]; rw [Bool.eq_iff_iff]; simp

theorem strBin_ok {op : BinOp} {t : TypeId} {x y : List UInt8} {K : AV → Option α} (h : strBin op x y K = some r) :
    ∃ v val, K v = some r ∧ RelV w N μ H v val ∧ BinYields P w op t (.string ⟨x.toArray⟩) (.string ⟨y.toArray⟩) val := by
  have key : ∀ (hs : op ≠ .shl) (hs' : op ≠ .shr) (val : Value), (∀ w', (Op.stringOp op (⟨x.toArray⟩ : ByteArray) ⟨y.toArray⟩).run P w' = .ok val w') →
      BinYields P w op t (.string ⟨x.toArray⟩) (.string ⟨y.toArray⟩) val := fun hs hs' val hh =>
    binYields_of (by simp) (by simp) fun w' _ => by
      have : binOp op t (.string ⟨x.toArray⟩) (.string ⟨y.toArray⟩) = Op.stringOp op ⟨x.toArray⟩ ⟨y.toArray⟩ := by cases op <;> simp_all [binOp]
      rw [this]; exact hh w'
  have hb : (x == y) = decide (x = y) := by rw [Bool.eq_iff_iff]; simp
  cases op <;> simp only [strBin, reduceCtorEq] at h
  all_goals refine ⟨_, _, h, by simp only [RelV]; rfl, key (by simp) (by simp) _ fun w' => ?_⟩
  all_goals simp only [Op.stringOp, ByteArray.toList_mk, hb, Sem.run_pure]

theorem eqCell_ok {x y : AV} {a b : Value} {K : Bool → Option α} (hx : RelV w N μ H x a) (hy : RelV w N μ H y b) (h : eqCell x y K = some r) :
    ∃ q, K q = some r ∧ ((∃ k m n, a = .int k m ∧ b = .int k n ∧ q = (m == n)) ∨ (∃ m n : ByteArray, a = .string m ∧ b = .string n ∧ q = (m == n)) ∨ (∃ m n, a = .bool m ∧ b = .bool n ∧ q = (m == n))) := by
  cases x <;> cases y <;> simp only [eqCell, reduceCtorEq] at h <;> simp only [RelV] at hx hy <;> subst hx <;> subst hy
  case i.i k m k' n =>
    by_cases hk : k = k'
    · subst hk; simp at h
      refine ⟨_, h, .inl ⟨k, m, n, rfl, rfl, ?_⟩⟩
      rw [Bool.eq_iff_iff]; simp
    · simp [hk] at h
  case u.u m n =>
    refine ⟨_, h, .inl ⟨.u8, _, _, rfl, rfl, ?_⟩⟩
    rw [Bool.eq_iff_iff]; simp only [beq_iff_eq, decide_eq_true_eq]
    exact ⟨fun h => by rw [h], fun h => UInt8.toNat_inj.1 (by omega)⟩
  case s.s m n =>
    refine ⟨_, h, .inr (.inl ⟨_, _, rfl, rfl, ?_⟩)⟩
    rw [beq_toListBytes, bytes_eq]
  all_goals exact ⟨_, h, .inr (.inr ⟨_, _, rfl, rfl, rfl⟩)⟩

end
end Go.Ev

namespace Go.Ev
open Go
section
variable {P : Program} {w : World} {N : Nat → Prop} {μ : Nat → Option Nat} {H : Nat → Blk} {α : Type} {r : α}

theorem flat_notAgg {t : TypeId} {x : AV} (h : flatTy P t x = true) : ∃ d, P.underlying t = some d ∧ isAggB P t = false := by
  unfold flatTy at h
  unfold isAggB
  cases hu : P.underlying t with
  | none => simp [hu] at h
  | some d => refine ⟨d, rfl, ?_⟩; cases d <;> simp_all

theorem flat_equalIn {t : TypeId} {x y : AV} {a b : Value} {K : Bool → Option α} (hf : flatTy P t x = true) (hx : RelV w N μ H x a) (hy : RelV w N μ H y b) (h : eqCell x y K = some r) :
    ∃ q, K q = some r ∧ ∀ d w', (Op.equalIn (d + 1) t a b).run P w' = .ok q w' := by
  obtain ⟨q, hK, hq⟩ := eqCell_ok hx hy h
  refine ⟨q, hK, fun d w' => ?_⟩
  unfold flatTy at hf
  cases hu : P.underlying t with
  | none => simp [hu] at hf
  | some ds =>
    rcases hq with ⟨k, m, n, rfl, rfl, rfl⟩ | ⟨m, n, rfl, rfl, rfl⟩ | ⟨m, n, rfl, rfl, rfl⟩
    all_goals
      cases ds <;> simp only [hu, Bool.false_eq_true] at hf <;> cases x <;> simp only [RelV, reduceCtorEq] at hx hf <;> try contradiction
    all_goals first
      | exact run_equalIn_int w' d t _ _ _ _ hu
      | exact run_equalIn_bool' w' d t _ _ hu
      | (rw [run_equalIn_string w' d t _ _ hu, beq_toListBytes]; done)
      | (simp_all; done)

theorem run_part {t : TypeId} {d : TypeDesc} (hu : P.underlying t = some d) (ha : isAggB P t = false) (cs : List Value) (o : Nat) (v : Value) (hv : cs[o]? = some v) (w' : World) :
    (part t cs.toArray o).run P w' = .ok v w' := by
  unfold part
  rw [Sem.run_bind, run_isAgg hu]
  simp [ha, hv]

theorem eqFS_ok : ∀ (fs : List Field) (i : Nat) (xs ys : List AV) (X Y : List Value) (K : Bool → Option α), RelVs w N μ H xs (X.drop i) → RelVs w N μ H ys (Y.drop i) →
    eqFS P i fs xs ys K = some r → ∃ q, K q = some r ∧ ∀ d w', (Op.eqFields (d + 1) X.toArray Y.toArray fs).run P w' = .ok q w' := by
  have hd : ∀ (X : List Value) i v vr, X.drop i = v :: vr → X[i]? = some v ∧ X.drop (i + 1) = vr := fun X i v vr h => by
    constructor
    · have : (X.drop i)[0]? = some v := by rw [h]; rfl
      simpa using this
    · have : (X.drop i).drop 1 = vr := by rw [h]; rfl
      simpa [Nat.add_comm] using this
  intro fs
  induction fs with
  | nil =>
    intro i xs ys X Y K hx hy h
    cases xs <;> cases ys <;> simp only [eqFS, reduceCtorEq] at h
    exact ⟨true, h, fun d w' => by simp [Op.eqFields]⟩
  | cons f fs ih =>
    intro i xs ys X Y K hx hy h
    cases xs with
    | nil => cases fs <;> simp [eqFS] at h
    | cons x xs =>
      cases ys with
      | nil => cases fs <;> cases xs <;> simp [eqFS] at h
      | cons y ys =>
        simp only [RelVs] at hx hy
        obtain ⟨a, ar, hX, h1, h2⟩ := hx
        obtain ⟨b, br, hY, g1, g2⟩ := hy
        obtain ⟨ha, har⟩ := hd _ _ _ _ hX
        obtain ⟨hb, hbr⟩ := hd _ _ _ _ hY
        have key : ∀ {K' : Bool → Option α}, cond (f.name != "_" && Nat.beq f.offset i && flatTy P f.type x) (eqCell x y K') none = some r →
            ∃ q, K' q = some r ∧ ∀ d w' fs', (Op.eqFields (d + 1) X.toArray Y.toArray (f :: fs')).run P w' = if q then (Op.eqFields (d + 1) X.toArray Y.toArray fs').run P w' else .ok false w' := by
          intro K' hc
          obtain ⟨hc1, hc2⟩ := cond_some hc
          simp only [Bool.and_eq_true, bne_iff_ne, ne_eq] at hc1
          obtain ⟨⟨hn, ho⟩, hf⟩ := hc1
          have ho' : f.offset = i := Nat.eq_of_beq_eq_true ho
          obtain ⟨q, hq, he⟩ := flat_equalIn hf h1 g1 hc2
          obtain ⟨ds, hu, hag⟩ := flat_notAgg hf
          refine ⟨q, hq, fun d w' fs' => ?_⟩
          have p1 := run_part (P := P) hu hag X f.offset a (by rw [ho']; exact ha) w'
          have p2 := run_part (P := P) hu hag Y f.offset b (by rw [ho']; exact hb) w'
          rw [Op.eqFields, if_pos hn]
          simp only [Sem.run_bind, p1, p2, he, Result.andThen_ok]
          cases q <;> simp
        have gen : cond (f.name != "_" && Nat.beq f.offset i && flatTy P f.type x) (eqCell x y fun r => eqFS P (i + 1) fs xs ys fun q => K (r && q)) none = some r →
            ∃ q, K q = some r ∧ ∀ d w', (Op.eqFields (d + 1) X.toArray Y.toArray (f :: fs)).run P w' = .ok q w' := by
          intro hg
          obtain ⟨q, hq, he⟩ := key hg
          obtain ⟨q', hq', he'⟩ := ih (i + 1) xs ys X Y _ (by rw [har]; exact h2) (by rw [hbr]; exact g2) hq
          exact ⟨q && q', hq', fun d w' => by rw [he, he']; cases q <;> simp⟩
        cases fs with
        | cons f' fs => exact gen (by cases xs <;> cases ys <;> simpa only [eqFS] using h)
        | nil =>
          cases xs with
          | cons x' xs => exact gen (by cases ys <;> simpa only [eqFS] using h)
          | nil =>
            cases ys with
            | cons y' ys => exact gen (by simpa only [eqFS] using h)
            | nil =>
              simp only [eqFS] at h
              obtain ⟨q, hq, he⟩ := key h
              exact ⟨q, hq, fun d w' => by rw [he]; cases q <;> simp [Op.eqFields]⟩

theorem run_partAgg {t : TypeId} {gs : Array Field} (hu : P.underlying t = some (.struct gs)) (cs : List Value) (o : Nat) (w' : World) :
    (part t cs.toArray o).run P w' = .ok (.agg ((cs.drop o).take (P.cellsOf t)).toArray) w' := by
  unfold part
  have ha : isAggB P t = true := by simp [isAggB, hu]
  rw [Sem.run_bind, run_isAgg hu]
  simp only [ha, Result.andThen_ok, if_true, Sem.run_bind, run_sizeOf' hu, Sem.run_pure]
  congr 2
  apply Array.ext'
  simp [List.take_drop]

theorem eqFS2_ok : ∀ (fs : List Field) (i : Nat) (xs ys : List AV) (X Y : List Value) (K : Bool → Option α), RelVs w N μ H xs (X.drop i) → RelVs w N μ H ys (Y.drop i) →
    eqFS2 P i fs xs ys K = some r → ∃ q, K q = some r ∧ ∀ d w', (Op.eqFields (d + 2) X.toArray Y.toArray fs).run P w' = .ok q w' := by
  intro fs
  induction fs with
  | nil =>
    intro i xs ys X Y K hx hy h
    cases xs <;> cases ys <;> simp only [eqFS2, reduceCtorEq] at h
    exact ⟨true, h, fun d w' => by simp [Op.eqFields]⟩
  | cons f fs ih =>
    intro i xs ys X Y K hx hy h
    simp only [eqFS2] at h
    have flat : ∀ (xs ys : List AV), RelVs w N μ H xs (X.drop i) → RelVs w N μ H ys (Y.drop i) → (match xs, ys with
      | x :: xs, y :: ys => cond (f.name != "_" && Nat.beq f.offset i && flatTy P f.type x)
          (eqCell x y fun r => eqFS2 P (i + 1) fs xs ys fun q => K (r && q)) none
      | _, _ => none) = some r → ∃ q, K q = some r ∧ ∀ d w', (Op.eqFields (d + 2) X.toArray Y.toArray (f :: fs)).run P w' = .ok q w' := by
      clear h hx hy xs ys
      intro xs ys hx hy h
      cases xs with
      | nil => simp at h
      | cons x xs =>
        cases ys with
        | nil => simp at h
        | cons y ys =>
          simp only at h
          simp only [RelVs] at hx hy
          obtain ⟨a, ar, hX, h1, h2⟩ := hx
          obtain ⟨b, br, hY, g1, g2⟩ := hy
          have hd : ∀ (X : List Value) v vr, X.drop i = v :: vr → X[i]? = some v ∧ X.drop (i + 1) = vr := fun X v vr h => by
            constructor
            · have : (X.drop i)[0]? = some v := by rw [h]; rfl
              simpa using this
            · have : (X.drop i).drop 1 = vr := by rw [h]; rfl
              simpa [Nat.add_comm] using this
          obtain ⟨ha, har⟩ := hd _ _ _ hX
          obtain ⟨hb, hbr⟩ := hd _ _ _ hY
          obtain ⟨hc1, hc2⟩ := cond_some h
          simp only [Bool.and_eq_true, bne_iff_ne, ne_eq] at hc1
          obtain ⟨⟨hn, ho⟩, hf⟩ := hc1
          have ho' : f.offset = i := Nat.eq_of_beq_eq_true ho
          obtain ⟨q, hq, he⟩ := flat_equalIn hf h1 g1 hc2
          obtain ⟨ds, hu, hag⟩ := flat_notAgg hf
          obtain ⟨q', hq', he'⟩ := ih (i + 1) xs ys X Y _ (by rw [har]; exact h2) (by rw [hbr]; exact g2) hq
          refine ⟨q && q', hq', fun d w' => ?_⟩
          have p1 := run_part (P := P) hu hag X f.offset a (by rw [ho']; exact ha) w'
          have p2 := run_part (P := P) hu hag Y f.offset b (by rw [ho']; exact hb) w'
          rw [Op.eqFields, if_pos hn]
          simp only [Sem.run_bind, p1, p2, he, Result.andThen_ok]
          cases q <;> simp [he']
    split at h
    · rename_i gs hu
      obtain ⟨hc1, hc2⟩ := cond_some h
      simp only [Bool.and_eq_true, bne_iff_ne, ne_eq, Bool.not_eq_true'] at hc1
      obtain ⟨⟨hn, ho⟩, hst⟩ := hc1
      have ho' : f.offset = i := Nat.eq_of_beq_eq_true ho
      obtain ⟨q, hq, he⟩ := eqFS_ok gs.toList 0 _ _ ((X.drop i).take (P.cellsOf f.type)) ((Y.drop i).take (P.cellsOf f.type)) _ (by simpa using RelVs_take _ hx) (by simpa using RelVs_take _ hy) hc2
      obtain ⟨q', hq', he'⟩ := ih (i + P.cellsOf f.type) _ _ X Y _ (by rw [← List.drop_drop]; exact RelVs_drop _ hx) (by rw [← List.drop_drop]; exact RelVs_drop _ hy) hq
      refine ⟨q && q', hq', fun d w' => ?_⟩
      have hf : P.fieldsOf f.type = gs := by simp [Program.fieldsOf, hu]
      have hu' : P.underlying f.type = some (.struct (P.fieldsOf f.type)) := by rw [hf, hu]
      have p1 := run_partAgg (P := P) hu X f.offset w'
      have p2 := run_partAgg (P := P) hu Y f.offset w'
      have p3 := run_equalIn_agg w' (d + 1) f.type ((X.drop i).take (P.cellsOf f.type)).toArray ((Y.drop i).take (P.cellsOf f.type)).toArray hu' hst
      rw [hf, he] at p3
      rw [ho'] at p1 p2
      rw [Op.eqFields, if_pos hn, ho']
      simp only [Sem.run_bind, p1, p2, p3, Result.andThen_ok]
      cases q <;> simp [he']
    · exact flat _ _ hx hy h

theorem run_equalIn_arr2 {t e : TypeId} {ds : TypeDesc} (ht : P.underlying t = some (.array 2 e)) (hs : P.cellsOf e = 1) (hu : P.underlying e = some ds) (ha : isAggB P e = false) {a1 a2 b1 b2 : Value} {q1 q2 : Bool} {d : Nat}
    (h1 : ∀ w', (Op.equalIn d e a1 b1).run P w' = .ok q1 w') (h2 : ∀ w', (Op.equalIn d e a2 b2).run P w' = .ok q2 w') (w' : World) :
    (Op.equalIn (d + 1) t (.agg #[a1, a2]) (.agg #[b1, b2])).run P w' = .ok (q1 && q2) w' := by
  have p1 : ∀ w', (part e #[a1, a2] 0).run P w' = .ok a1 w' := run_part hu ha [a1, a2] 0 a1 rfl
  have p2 : ∀ w', (part e #[a1, a2] 1).run P w' = .ok a2 w' := run_part hu ha [a1, a2] 1 a2 rfl
  have p3 : ∀ w', (part e #[b1, b2] 0).run P w' = .ok b1 w' := run_part hu ha [b1, b2] 0 b1 rfl
  have p4 : ∀ w', (part e #[b1, b2] 1).run P w' = .ok b2 w' := run_part hu ha [b1, b2] 1 b2 rfl
  have hz : ∀ w', (sizeOf e).run P w' = .ok 1 w' := fun w' => by rw [run_sizeOf' hu, hs]
  unfold Op.equalIn
  simp only [Sem.run_bind, run_underlying ht, Result.andThen_ok, hz]
  simp [List.range', p1, p2, p3, p4, h1, h2]
  cases q1 <;> cases q2 <;> simp

theorem eqAgg_ok {t : TypeId} {xs ys : List AV} {X Y : List Value} {K : Bool → Option α} (hx : RelVs w N μ H xs X) (hy : RelVs w N μ H ys Y) (h : eqAgg P t xs ys K = some r) :
    ∃ q, K q = some r ∧ BinYields P w .eql t (.agg X.toArray) (.agg Y.toArray) (.bool q) ∧ BinYields P w .neq t (.agg X.toArray) (.agg Y.toArray) (.bool (!q)) := by
  unfold eqAgg at h
  obtain ⟨h1, h2⟩ := cond_some h
  simp only [Bool.and_eq_true, Bool.not_eq_true'] at h1
  split at h2
  · rename_i fs hu
    obtain ⟨q, hq, he⟩ : ∃ q, K q = some r ∧ ∀ d w', (Op.eqFields (d + 2) X.toArray Y.toArray fs.toList).run P w' = .ok q w' := by
      cases hb : Nat.beq fs.size xs.length
      · rw [hb, cond_false] at h2
        exact eqFS2_ok fs.toList 0 xs ys X Y K (by simpa using hx) (by simpa using hy) h2
      · rw [hb, cond_true] at h2
        obtain ⟨q, hq, he⟩ := eqFS_ok fs.toList 0 xs ys X Y K (by simpa using hx) (by simpa using hy) h2
        exact ⟨q, hq, fun d w' => he (d + 1) w'⟩
    have hf : P.fieldsOf t = fs := by simp [Program.fieldsOf, hu]
    have hu' : P.underlying t = some (.struct (P.fieldsOf t)) := by rw [hf, hu]
    refine ⟨q, hq, fun w' _ x y => ?_, fun w' _ x y => ?_⟩
    · simp only [Sem.run_bind, run_eqGuard_agg w' _ t x y _ _ h1.1, Result.andThen_ok, run_eql_struct, run_equalIn_agg w' 9999 t _ _ hu' h1.2, hf, he 9997]
    · simp only [Sem.run_bind, run_eqGuard_agg w' _ t x y _ _ h1.1, Result.andThen_ok, run_neq_struct, run_equalIn_agg w' 9999 t _ _ hu' h1.2, hf, he 9997]
  · rename_i e hu
    split at h2
    · rename_i x1 x2 y1 y2
      obtain ⟨h3, h4⟩ := cond_some h2
      simp only [Bool.and_eq_true] at h3
      obtain ⟨⟨h5, h6⟩, h7⟩ := h3
      simp only [RelVs] at hx hy
      obtain ⟨a1, r1, rfl, ha1, a2, r2, rfl, ha2, rfl⟩ := hx
      obtain ⟨b1, s1, rfl, hb1, b2, s2, rfl, hb2, rfl⟩ := hy
      obtain ⟨q1, h8, e1⟩ := flat_equalIn h6 ha1 hb1 h4
      obtain ⟨q2, h9, e2⟩ := flat_equalIn h7 ha2 hb2 h8
      obtain ⟨ds, hue, hag⟩ := flat_notAgg h6
      have hrun := run_equalIn_arr2 (P := P) hu (Nat.eq_of_beq_eq_true h5) hue hag (d := 9999) (e1 9998) (e2 9998)
      refine ⟨q1 && q2, h9, fun w' _ x y => ?_, fun w' _ x y => ?_⟩
      · simp only [Sem.run_bind, run_eqGuard_agg w' _ t x y _ _ h1.1, Result.andThen_ok, run_eql_struct]
        have := hrun w'
        simp only [this, Result.andThen_ok]
      · simp only [Sem.run_bind, run_eqGuard_agg w' _ t x y _ _ h1.1, Result.andThen_ok, run_neq_struct]
        have := hrun w'
        simp only [this, Result.andThen_ok]
    · cases h2
  · cases h2

theorem isBool_und {t : TypeId} (h : isBoolTy P t = true) : P.underlying t = some .bool := by
  unfold isBoolTy at h
  cases hu : P.underlying t with
  | none => simp [hu] at h
  | some d => cases d <;> simp_all

theorem evBin_ok {op : BinOp} {t : TypeId} {x y : AV} {a b : Value} {K : AV → Option α} (hx : RelV w N μ H x a) (hy : RelV w N μ H y b) (h : evBin P op t x y K = some r) :
    ∃ v val, K v = some r ∧ RelV w N μ H v val ∧ BinYields P w op t a b val := by
  have bools : ∀ {x y : AV} {a b : Value}, RelV w N μ H x a → RelV w N μ H y b → (∀ xs, x ≠ .agg xs) →
      cond (isBoolTy P t) (match op with
        | .eql => eqCell x y fun r => K (.b r)
        | .neq => eqCell x y fun r => K (.b (!r))
        | _ => none) none = some r → ∃ v val, K v = some r ∧ RelV w N μ H v val ∧ BinYields P w op t a b val := by
    intro x y a b hx hy hxa hc
    obtain ⟨hb, hc⟩ := cond_some hc
    have hu := isBool_und hb
    have fin : ∀ q, ((∃ k m n, a = .int k m ∧ b = .int k n ∧ q = (m == n)) ∨ (∃ m n : ByteArray, a = .string m ∧ b = .string n ∧ q = (m == n)) ∨ (∃ m n, a = .bool m ∧ b = .bool n ∧ q = (m == n))) →
        BinYields P w .eql t a b (.bool q) ∧ BinYields P w .neq t a b (.bool (!q)) := by
      intro q hq
      rcases hq with ⟨k, m, n, rfl, rfl, rfl⟩ | ⟨m, n, rfl, rfl, rfl⟩ | ⟨m, n, rfl, rfl, rfl⟩
      · constructor <;> refine binYields_of (by simp) (by simp) fun w' _ => ?_
        · simp [binOp, Op.intCmp]
        · simp [binOp, Op.intCmp, bne]
      · constructor <;> refine binYields_of (by simp) (by simp) fun w' _ => ?_
        · simp [binOp, Op.stringOp, beq_toListBytes]
        · simp [binOp, Op.stringOp, beq_toListBytes]
      · constructor <;> refine binYields_of (by simp) (by simp) fun w' _ => ?_
        · simp [binOp, Op.equal, Op.maxDepth, run_equalIn_bool' w' 9999 t _ _ hu]
        · simp [binOp, Op.equal, Op.maxDepth, run_equalIn_bool' w' 9999 t _ _ hu]
    cases op <;> simp only [reduceCtorEq] at hc
    · obtain ⟨q, hK, hq⟩ := eqCell_ok hx hy hc
      exact ⟨_, _, hK, rfl, (fin q hq).1⟩
    · obtain ⟨q, hK, hq⟩ := eqCell_ok hx hy hc
      exact ⟨_, _, hK, rfl, (fin q hq).2⟩
  unfold evBin at h
  split at h
  · rename_i k m k' n
    simp only [RelV] at hx hy; subst hx; subst hy
    obtain ⟨hk, hc⟩ := cond_some h
    have hk' : k = k' := by simpa using hk
    subst hk'
    exact intBin_ok hc
  · simp only [RelV] at hx hy; subst hx; subst hy
    exact u8Bin_ok h
  · simp only [RelV] at hx hy; subst hx; subst hy
    exact strBin_ok h
  · rename_i xs ys
    simp only [RelV] at hx hy
    obtain ⟨X, rfl, hx⟩ := hx
    obtain ⟨Y, rfl, hy⟩ := hy
    cases op <;> simp only [reduceCtorEq] at h
    · obtain ⟨q, hK, h1, _⟩ := eqAgg_ok hx hy h
      exact ⟨_, _, hK, rfl, h1⟩
    · obtain ⟨q, hK, _, h2⟩ := eqAgg_ok hx hy h
      exact ⟨_, _, hK, rfl, h2⟩
  · rename_i h1 h2 h3 h4
    by_cases hxa : ∃ xs, x = .agg xs
    · obtain ⟨xs, rfl⟩ := hxa
      obtain ⟨hb, hc⟩ := cond_some h
      cases op <;> simp only [reduceCtorEq] at hc <;> cases y <;> simp [eqCell] at hc
    · exact bools hx hy (fun xs hh => hxa ⟨xs, hh⟩) h

end
end Go.Ev

namespace Go.Ev
open Go
section
variable {P : Program} {w : World} {N : Nat → Prop} {μ : Nat → Option Nat} {H : Nat → Blk} {α : Type} {r : α}

theorem isNilSl_eq {u : Value} (h : isNilSl u = true) : u = .slice none 0 0 := by
  unfold isNilSl at h
  split at h
  · rfl
  · cases h

theorem pickIx_at {i : Int} {K : Nat → Option α} : ∀ {n k : Nat}, pickIx i K n k = some r → (k : Int) ≤ i ∧ i < (k : Int) + (n : Int) ∧ K i.toNat = some r
  | 0, _, h => by cases h
  | n + 1, k, h => by
    simp only [pickIx] at h
    by_cases e : i = (k : Int)
    · subst e
      rw [decide_eq_true rfl] at h
      exact ⟨Int.le_refl _, by omega, by simpa using h⟩
    · rw [decide_eq_false e] at h
      obtain ⟨h1, h2, h3⟩ := pickIx_at (n := n) (k := k + 1) h
      exact ⟨by omega, by omega, h3⟩

theorem pickIx_ok {i : Int} {K : Nat → Option α} {n : Nat} (h : pickIx i K n 0 = some r) : 0 ≤ i ∧ i < (n : Int) ∧ K i.toNat = some r := by
  obtain ⟨h1, h2, h3⟩ := pickIx_at h
  exact ⟨by omega, by omega, h3⟩

theorem nilEq_ok {e q : Bool} {K : Bool → Option α} (hq : e = false → q = false) (h : nilEq e K = some r) : K q = some r := by
  unfold nilEq at h
  cases e with
  | false => rw [hq rfl]; exact h
  | true =>
    obtain ⟨h1, h2⟩ := agr_some h
    cases q
    · exact h2
    · exact h1

theorem run_equalIn_nil {t e : TypeId} (hu : P.underlying t = some (.slice e)) (ad : Option Addr) (n c d : Nat) (w' : World) : (Op.equalIn (d + 1) t (.slice ad n c) (.slice none 0 0)).run P w' = .ok ad.isNone w' := by
  unfold Op.equalIn
  cases ad <;> simp [run_underlying hu]

theorem nil_yields {t : TypeId} {ty : Ty} {l : List ty.den} {a : Value} (ht : isSlTy P t = true) (hx : RelV w N μ H (.sl ty l) a) :
    ∃ q : Bool, (l.isEmpty = false → q = false) ∧ BinYields P w .eql t a (.slice none 0 0) (.bool q) ∧ BinYields P w .neq t a (.slice none 0 0) (.bool (!q)) := by
  simp only [RelV, RelD] at hx
  obtain ⟨ad, c, hv, hc, hr⟩ := hx
  simp only [List.cons.injEq, and_true] at hv
  subst hv
  unfold isSlTy at ht
  split at ht
  · rename_i e hu
    refine ⟨ad.isNone, fun he => ?_, ?_, ?_⟩
    · have hp : 0 < l.length := by
        cases l with
        | nil => simp at he
        | cons _ _ => simp
      obtain ⟨g, o, h1, _⟩ := hr hp
      rw [h1]; rfl
    · refine binYields_of (by simp) (by simp) fun w' _ => ?_
      have := run_equalIn_nil hu ad l.length c 9999 w'
      simp only [binOp, Op.equal, Op.maxDepth, Sem.run_bind, this, Result.andThen_ok, Sem.run_pure]
    · refine binYields_of (by simp) (by simp) fun w' _ => ?_
      have := run_equalIn_nil hu ad l.length c 9999 w'
      simp only [binOp, Op.equal, Op.maxDepth, Sem.run_bind, this, Result.andThen_ok, Sem.run_pure]
  · cases ht

theorem nilB_rel {x : AV} {q : Bool} : RelV w N μ H (nilB x q) (.bool q) := by
  unfold nilB
  split <;> simp [RelV]

theorem run_equalIn_ptr {t e : TypeId} (hu : P.underlying t = some (.pointer e)) (ad : Option Addr) (d : Nat) (w' : World) : (Op.equalIn (d + 1) t (.pointer ad) (.pointer none)).run P w' = .ok ad.isNone w' := by
  unfold Op.equalIn
  cases ad <;> simp [run_underlying hu]

theorem run_equalIn_map {t k e : TypeId} (hu : P.underlying t = some (.map k e)) (ad : Option Nat) (d : Nat) (w' : World) : (Op.equalIn (d + 1) t (.map ad) (.map none)).run P w' = .ok ad.isNone w' := by
  unfold Op.equalIn
  cases ad <;> simp [run_underlying hu]

theorem nilRef_yields {t : TypeId} {x : AV} {a v : Value} {q : Bool} (h : nilRef P t x v = some q) (hx : RelV w N μ H x a) : BinYields P w .eql t a v (.bool q) ∧ BinYields P w .neq t a v (.bool (!q)) := by
  have ptr : ∀ {e : TypeId} (ad : Option Addr), P.underlying t = some (.pointer e) → ad.isNone = q → BinYields P w .eql t (.pointer ad) (.pointer none) (.bool q) ∧ BinYields P w .neq t (.pointer ad) (.pointer none) (.bool (!q)) := fun ad hu hq => by
    subst hq
    constructor
    · refine binYields_of (by simp) (by simp) fun w' _ => ?_
      have := run_equalIn_ptr hu ad 9999 w'
      simp only [binOp, Op.equal, Op.maxDepth, Sem.run_bind, this, Result.andThen_ok, Sem.run_pure]
    · refine binYields_of (by simp) (by simp) fun w' _ => ?_
      have := run_equalIn_ptr hu ad 9999 w'
      simp only [binOp, Op.equal, Op.maxDepth, Sem.run_bind, this, Result.andThen_ok, Sem.run_pure]
  have map : ∀ {k e : TypeId} (ad : Option Nat), P.underlying t = some (.map k e) → ad.isNone = q → BinYields P w .eql t (.map ad) (.map none) (.bool q) ∧ BinYields P w .neq t (.map ad) (.map none) (.bool (!q)) := fun ad hu hq => by
    subst hq
    constructor
    · refine binYields_of (by simp) (by simp) fun w' _ => ?_
      have := run_equalIn_map hu ad 9999 w'
      simp only [binOp, Op.equal, Op.maxDepth, Sem.run_bind, this, Result.andThen_ok, Sem.run_pure]
    · refine binYields_of (by simp) (by simp) fun w' _ => ?_
      have := run_equalIn_map hu ad 9999 w'
      simp only [binOp, Op.equal, Op.maxDepth, Sem.run_bind, this, Result.andThen_ok, Sem.run_pure]
  unfold nilRef at h
  split at h
  · rename_i e b o hu
    cases h
    simp only [RelV] at hx
    obtain ⟨_, g, _, rfl⟩ := hx
    exact ptr _ hu rfl
  · rename_i e c b o hu
    cases h
    simp only [RelV] at hx
    obtain ⟨_, ⟨rfl, g, _, rfl⟩ | ⟨rfl, rfl⟩⟩ := hx
    · exact ptr _ hu rfl
    · exact ptr _ hu rfl
  · rename_i e hu
    cases h
    simp only [RelV] at hx
    subst hx
    exact ptr _ hu rfl
  · rename_i k e b hu
    cases h
    simp only [RelV] at hx
    obtain ⟨_, g, _, rfl⟩ := hx
    exact map _ hu rfl
  · rename_i k e hu
    cases h
    simp only [RelV] at hx
    subst hx
    exact map _ hu rfl
  · cases h

theorem evBinS_ok {op : BinOp} {t : TypeId} {x y : AV} {a b : Value} {K : Bool → AV → Option α} (hx : RelV w N μ H x a) (hy : RelV w N μ H y b) (h : evVal.evBinS P op t x y K = some r) :
    ∃ side v, K side v = some r ∧ (side = true → ∃ val, RelV w N μ H v val ∧ BinYields P w op t a b val) := by
  unfold evVal.evBinS at h
  split at h
  · rename_i k m k' n
    simp only [RelV] at hx hy; subst hx; subst hy
    obtain ⟨hk, hc⟩ := cond_some h
    have hk' : k = k' := by simpa using hk
    subst hk'
    refine ⟨_, _, hc, fun hs => ⟨_, wr_ok, binYields_of (by simp) (by simp) fun w' _ => ?_⟩⟩
    have hn : n ≠ 0 := by simpa using hs
    rw [binOp_int (by simp) (by simp)]
    simp [intOp, Op.intDiv, hn]
  · rename_i k m k' n
    simp only [RelV] at hx hy; subst hx; subst hy
    obtain ⟨hk, hc⟩ := cond_some h
    have hk' : k = k' := by simpa using hk
    subst hk'
    refine ⟨_, _, hc, fun hs => ⟨.int k (m.tmod n), rfl, binYields_of (by simp) (by simp) fun w' _ => ?_⟩⟩
    have hn : n ≠ 0 := by simpa using hs
    rw [binOp_int (by simp) (by simp)]
    simp [intOp, Op.intDiv, hn]
  · rename_i m n
    simp only [RelV] at hx hy; subst hx; subst hy
    refine ⟨_, _, h, fun hs => ⟨.int .u8 ((m / n).toNat : Int), rfl, binYields_of (by simp) (by simp) fun w' _ => ?_⟩⟩
    have hn : n ≠ 0 := by simpa using hs
    have hn' : ¬ n.toNat = 0 := fun h0 => hn (UInt8.toNat_inj.1 (by simpa using h0))
    have hn'' : ¬ (n.toNat : Int) = 0 := by omega
    have hm := u8_toNat m
    rw [binOp_int (by simp) (by simp)]
    simp only [intOp, Op.intDiv, hn'', if_false, Sem.run_pure]
    refine congrArg (fun z => Result.ok (Value.int .u8 z) w') ?_
    rw [wrap_u8, UInt8.toNat_div, ← Int.ofNat_tdiv]
    have h3 := Nat.div_le_self m.toNat n.toNat
    generalize m.toNat / n.toNat = q at h3 ⊢
    omega
  · rename_i m n
    simp only [RelV] at hx hy; subst hx; subst hy
    refine ⟨_, _, h, fun hs => ⟨.int .u8 ((m % n).toNat : Int), rfl, binYields_of (by simp) (by simp) fun w' _ => ?_⟩⟩
    have hn : n ≠ 0 := by simpa using hs
    have hn' : ¬ n.toNat = 0 := fun h0 => hn (UInt8.toNat_inj.1 (by simpa using h0))
    have hn'' : ¬ (n.toNat : Int) = 0 := by omega
    rw [binOp_int (by simp) (by simp)]
    simp only [intOp, Op.intDiv, hn'', if_false, Sem.run_pure]
    refine congrArg (fun z => Result.ok (Value.int .u8 z) w') ?_
    rw [UInt8.toNat_mod, Int.ofNat_tmod]
  · rename_i m n
    simp only [RelV] at hx hy; subst hx; subst hy
    refine ⟨_, _, h, fun hs => ⟨.string ⟨(m ++ n).toArray⟩, rfl, binYields_of (by simp) (by simp) fun w' _ => ?_⟩⟩
    have hl : m.length + n.length ≤ 9223372036854775807 := by simpa [fits] using hs
    have he : (IntKind.i64.max : Int) = 9223372036854775807 := by decide
    have hsz : ¬ (((⟨m.toArray⟩ : ByteArray).size + (⟨n.toArray⟩ : ByteArray).size : Nat) : Int) > IntKind.i64.max := by
      rw [he]
      have h1 : (⟨m.toArray⟩ : ByteArray).size = m.length := by simp [ByteArray.size]
      have h2 : (⟨n.toArray⟩ : ByteArray).size = n.length := by simp [ByteArray.size]
      rw [h1, h2]; omega
    have : binOp .add t (.string ⟨m.toArray⟩) (.string ⟨n.toArray⟩) = Op.stringOp .add ⟨m.toArray⟩ ⟨n.toArray⟩ := by simp [binOp]
    rw [this]
    simp only [Op.stringOp, if_neg hsz, Sem.run_pure, ByteArray.mk_append_mk]
  · rename_i k m k' n
    simp only [RelV] at hx hy; subst hx; subst hy
    refine ⟨_, _, h, fun hs => ⟨_, wr_ok, binYields_of (by simp) (by simp) fun w' _ => ?_⟩⟩
    have hn : ¬ n < 0 := by have : 0 ≤ n := by simpa using hs
                            omega
    simp [binOp, Op.shift, hn]
  · rename_i k m k' n
    simp only [RelV] at hx hy; subst hx; subst hy
    refine ⟨_, _, h, fun hs => ⟨.int k (m.fdiv (2 ^ (min n.toNat k.bits))), rfl, binYields_of (by simp) (by simp) fun w' _ => ?_⟩⟩
    have hn : ¬ n < 0 := by have : 0 ≤ n := by simpa using hs
                            omega
    simp [binOp, Op.shift, hn]
  · rename_i m k' n
    simp only [RelV] at hx hy; subst hx; subst hy
    refine ⟨_, _, h, fun hs => ⟨.int .u8 ((UInt8.ofNat (m.toNat * 2 ^ (min n.toNat 8))).toNat : Int), rfl, binYields_of (by simp) (by simp) fun w' _ => ?_⟩⟩
    have hn : ¬ n < 0 := by have : 0 ≤ n := by simpa using hs
                            omega
    have e : (((UInt8.ofNat (m.toNat * 2 ^ (min n.toNat 8))).toNat : Nat) : Int) = IntKind.u8.wrap ((m.toNat : Int) * 2 ^ (min n.toNat 8)) := by
      rw [wrap_u8]
      simp [UInt8.toNat_ofNat']
    rw [e]
    simp [binOp, Op.shift, hn, show IntKind.u8.bits = 8 from rfl]
  · obtain ⟨h1, h2⟩ := cond_some h
    simp only [Bool.and_eq_true] at h1
    simp only [RelV] at hy
    have hy' := isNilSl_eq h1.1
    subst hy
    subst hy'
    obtain ⟨q, hq, h3, _⟩ := nil_yields h1.2 hx
    exact ⟨true, _, nilEq_ok hq h2, fun _ => ⟨.bool q, rfl, h3⟩⟩
  · obtain ⟨h1, h2⟩ := cond_some h
    simp only [Bool.and_eq_true] at h1
    simp only [RelV] at hy
    have hy' := isNilSl_eq h1.1
    subst hy
    subst hy'
    obtain ⟨q, hq, _, h3⟩ := nil_yields h1.2 hx
    exact ⟨true, _, nilEq_ok hq h2, fun _ => ⟨.bool (!q), rfl, h3⟩⟩
  · split at h
    · rename_i q hq
      simp only [RelV] at hy
      subst hy
      exact ⟨true, _, h, fun _ => ⟨.bool q, nilB_rel, (nilRef_yields hq hx).1⟩⟩
    · obtain ⟨v, val, hK, hv, hb⟩ := evBin_ok hx hy h
      exact ⟨true, v, hK, fun _ => ⟨val, hv, hb⟩⟩
  · split at h
    · rename_i q hq
      simp only [RelV] at hy
      subst hy
      exact ⟨true, _, h, fun _ => ⟨.bool (!q), nilB_rel, (nilRef_yields hq hx).2⟩⟩
    · obtain ⟨v, val, hK, hv, hb⟩ := evBin_ok hx hy h
      exact ⟨true, v, hK, fun _ => ⟨val, hv, hb⟩⟩
  · obtain ⟨v, val, hK, hv, hb⟩ := evBin_ok hx hy h
    exact ⟨true, v, hK, fun _ => ⟨val, hv, hb⟩⟩

theorem evUn_ok {op : UnOp} {x : AV} {a : Value} {K : AV → Option α} (hx : RelV w N μ H x a) (h : evUn op x K = some r) :
    ∃ v val, K v = some r ∧ RelV w N μ H v val ∧ ∀ w', (Op.unary op a).run P w' = .ok val w' := by
  unfold evUn at h
  split at h
  · simp only [RelV] at hx; subst hx
    exact ⟨_, _, h, wr_ok, fun w' => by simp [Op.unary, Op.intArith]⟩
  · simp only [RelV] at hx; subst hx
    exact ⟨_, _, h, rfl, fun w' => by simp [Op.unary]⟩
  · simp only [RelV] at hx; subst hx
    exact ⟨_, _, h, rfl, fun w' => by simp [Op.unary]⟩
  · cases h

theorem natOf_ok {x : AV} {a : Value} {K : Int → Option α} (hx : RelV w N μ H x a) (h : natOf x K = some r) : ∃ k n, a = .int k n ∧ K n = some r := by
  cases x <;> first | (simp only [natOf, reduceCtorEq] at h; done) | simp only [natOf] at h
  · simp only [RelV] at hx; exact ⟨_, _, hx, h⟩
  · simp only [RelV] at hx; exact ⟨_, _, hx, h⟩

/-- A bound that is left out, or an int. -/
def IsBound (v : Option Value) (d n : Int) : Prop := (v = none ∧ n = d) ∨ ∃ k, v = some (.int k n)

theorem boundOf_ok {ρ : Operand → Value} {ρA : Operand → AV} (hρ : ∀ x, RelG w N μ H ρ (ρA x) (ρ x)) {x : Option Operand} {d : Int} {K : Int → Option α}
    (h : boundOf (x.map ρA) d K = some r) : ∃ n, K n = some r ∧ IsBound (x.map ρ) d n := by
  cases x with
  | none => exact ⟨d, h, .inl ⟨rfl, rfl⟩⟩
  | some x =>
    obtain ⟨k, n, ha, hK⟩ := natOf_ok (hρ x).rel h
    exact ⟨n, hK, .inr ⟨k, by simp [ha]⟩⟩

theorem run_bounds {isSlice : Bool} {len cap : Nat} {lo hi : Option Value} {a z : Int} (hlo : IsBound lo 0 a) (hhi : IsBound hi len z) (h0 : 0 ≤ a) (h1 : a ≤ z) (h2 : z ≤ (len : Int)) (hc : len ≤ cap) (w' : World) :
    (Instr.sliceBounds isSlice len cap lo hi none).run P w' = .ok (a.toNat, z.toNat, cap) w' := by
  have e1 : 0 ≤ z ∧ z ≤ (cap : Int) := ⟨by omega, by omega⟩
  have e2 : 0 ≤ a ∧ a ≤ ((z.toNat : Nat) : Int) := ⟨h0, by omega⟩
  have e3 : 0 ≤ a ∧ a ≤ (len : Int) := ⟨h0, by omega⟩
  rcases hlo with ⟨rfl, rfl⟩ | ⟨k, rfl⟩ <;> rcases hhi with ⟨rfl, rfl⟩ | ⟨k', rfl⟩ <;>
    simp only [Instr.sliceBounds, Instr.sliceBound, asIntOf, Sem.run_bind, Sem.run_pure, Result.andThen_ok, Sem.run_ite, e1, e2, e3, and_self, if_true, Option.isSome_none, Bool.false_eq_true, if_false, Int.toNat_zero, Int.toNat_natCast]

theorem szOK_run {e : TypeId} {t : Ty} (h : szOK P e t = true) (w' : World) : (sizeOf e).run P w' = .ok t.size w' := by
  unfold szOK at h
  cases hi : P.info? e with
  | none => simp [hi] at h
  | some i =>
    simp only [hi] at h
    rw [run_sizeOf hi, Nat.eq_of_beq_eq_true h]

theorem run_sliceOf {t e : TypeId} {ty : Ty} (ht : P.underlying t = some (.slice e)) (hs : szOK P e ty = true) {ad : Option Addr} {len cap : Nat} {lo hi : Option Value} {a z : Int}
    (hlo : IsBound lo 0 a) (hhi : IsBound hi len z) (h0 : 0 ≤ a) (h1 : a ≤ z) (h2 : z ≤ (len : Int)) (hc : len ≤ cap) (w' : World) :
    (Instr.sliceAt t (.slice ad len cap) lo hi none).run P w' =
      .ok (.slice (if cap = a.toNat then ad else ad.map (·.add (a.toNat * ty.size))) (z.toNat - a.toNat) (cap - a.toNat)) w' := by
  have hu := run_underlying ht w'
  simp only [Instr.sliceAt, Sem.run_bind, hu, Result.andThen_ok, Instr.slice, run_bounds hlo hhi h0 h1 h2 hc, szOK_run hs, Sem.run_pure]

theorem run_bounds3 {isSlice : Bool} {len cap : Nat} {lo : Option Value} {k k' : IntKind} {a z m : Int} (hlo : IsBound lo 0 a) (h0 : 0 ≤ a) (h1 : a ≤ z) (h2 : z ≤ m) (hc : m ≤ (cap : Int)) (w' : World) :
    (Instr.sliceBounds isSlice len cap lo (some (.int k z)) (some (.int k' m))).run P w' = .ok (a.toNat, z.toNat, m.toNat) w' := by
  have e1 : 0 ≤ z ∧ z ≤ ((m.toNat : Nat) : Int) := ⟨by omega, by omega⟩
  have e2 : 0 ≤ a ∧ a ≤ ((z.toNat : Nat) : Int) := ⟨h0, by omega⟩
  have e3 : 0 ≤ m ∧ m ≤ (cap : Int) := ⟨by omega, by omega⟩
  rcases hlo with ⟨rfl, rfl⟩ | ⟨k, rfl⟩ <;>
    simp only [Instr.sliceBounds, Instr.sliceBound, asIntOf, Sem.run_bind, Sem.run_pure, Result.andThen_ok, Sem.run_ite, e1, e2, e3, and_self, if_true, Option.isSome_some, Int.toNat_zero]

theorem run_sliceOf3 {t e : TypeId} {ty : Ty} (ht : P.underlying t = some (.slice e)) (hs : szOK P e ty = true) {ad : Option Addr} {len cap : Nat} {lo : Option Value} {k k' : IntKind} {a z m : Int}
    (hlo : IsBound lo 0 a) (h0 : 0 ≤ a) (h1 : a ≤ z) (h2 : z ≤ m) (hc : m ≤ (cap : Int)) (w' : World) :
    (Instr.sliceAt t (.slice ad len cap) lo (some (.int k z)) (some (.int k' m))).run P w' =
      .ok (.slice (if m.toNat = a.toNat then ad else ad.map (·.add (a.toNat * ty.size))) (z.toNat - a.toNat) (m.toNat - a.toNat)) w' := by
  have hu := run_underlying ht w'
  simp only [Instr.sliceAt, Sem.run_bind, hu, Result.andThen_ok, Instr.slice, run_bounds3 hlo h0 h1 h2 hc, szOK_run hs, Sem.run_pure]

theorem run_sliceStr {t : TypeId} (ht : P.underlying t = some .string) {s : List UInt8} {lo hi : Option Value} {a z : Int}
    (hlo : IsBound lo 0 a) (hhi : IsBound hi (s.length : Int) z) (h0 : 0 ≤ a) (h1 : a ≤ z) (h2 : z ≤ (s.length : Int)) (w' : World) :
    (Instr.sliceAt t (.string ⟨s.toArray⟩) lo hi none).run P w' = .ok (.string ⟨((s.drop a.toNat).take (z.toNat - a.toNat)).toArray⟩) w' := by
  have hu := run_underlying ht w'
  have hsz : (⟨s.toArray⟩ : ByteArray).size = s.length := by simp [ByteArray.size]
  have hb := run_bounds (P := P) (isSlice := false) hlo hhi h0 h1 h2 (Nat.le_refl _) w'
  simp [Instr.sliceAt, hu, Instr.slice, hsz, hb, ByteArray.extract_mk]

end
end Go.Ev
