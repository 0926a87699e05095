/- The operations that only yield a value, 4. -/
import Derived.Test.YtnhjmcedpcpdoaaDoorEv5
import Derived.Laws.BytesString
namespace Go.Ev
open Go
section
variable {P : Program} {w : World} {N : Nat → Prop} {μ : Nat → Option Nat} {H : Nat → Blk} {α : Type} {r : α}

theorem isNilSl_eq {u : Value} (h : isNilSl u = true) : u = .slice none 0 0 := by
  unfold isNilSl at h
  split at h
  · rfl
  · cases h

theorem pickIx_at {i : Int} {K : Nat → Option α} : ∀ {n k : Nat}, pickIx i K n k = some r → (k : Int) ≤ i ∧ i < (k : Int) + (n : Int) ∧ K i.toNat = some r
  | 0, _, h => by cases h
  | n + 1, k, h => by
    simp only [pickIx] at h
    by_cases e : i = (k : Int)
    · subst e
      rw [decide_eq_true rfl] at h
      exact ⟨Int.le_refl _, by omega, by simpa using h⟩
    · rw [decide_eq_false e] at h
      obtain ⟨h1, h2, h3⟩ := pickIx_at (n := n) (k := k + 1) h
      exact ⟨by omega, by omega, h3⟩

theorem pickIx_ok {i : Int} {K : Nat → Option α} {n : Nat} (h : pickIx i K n 0 = some r) : 0 ≤ i ∧ i < (n : Int) ∧ K i.toNat = some r := by
  obtain ⟨h1, h2, h3⟩ := pickIx_at h
  exact ⟨by omega, by omega, h3⟩

theorem nilEq_ok {e q : Bool} {K : Bool → Option α} (hq : e = false → q = false) (h : nilEq e K = some r) : K q = some r := by
  unfold nilEq at h
  cases e with
  | false => rw [hq rfl]; exact h
  | true =>
    obtain ⟨h1, h2⟩ := agr_some h
    cases q
    · exact h2
    · exact h1

theorem run_equalIn_nil {t e : TypeId} (hu : P.underlying t = some (.slice e)) (ad : Option Addr) (n c d : Nat) (w' : World) : (Op.equalIn (d + 1) t (.slice ad n c) (.slice none 0 0)).run P w' = .ok ad.isNone w' := by
  unfold Op.equalIn
  cases ad <;> simp [run_underlying hu]

theorem nil_yields {t : TypeId} {ty : Ty} {l : List ty.den} {a : Value} (ht : isSlTy P t = true) (hx : RelV w N μ H (.sl ty l) a) :
    ∃ q : Bool, (l.isEmpty = false → q = false) ∧ BinYields P w .eql t a (.slice none 0 0) (.bool q) ∧ BinYields P w .neq t a (.slice none 0 0) (.bool (!q)) := by
  simp only [RelV, RelD] at hx
  obtain ⟨ad, c, hv, hc, hr⟩ := hx
  simp only [List.cons.injEq, and_true] at hv
  subst hv
  unfold isSlTy at ht
  split at ht
  · rename_i e hu
    refine ⟨ad.isNone, fun he => ?_, ?_, ?_⟩
    · have hp : 0 < l.length := by
        cases l with
        | nil => simp at he
        | cons _ _ => simp
      obtain ⟨g, o, h1, _⟩ := hr hp
      rw [h1]; rfl
    · refine binYields_of (by simp) (by simp) fun w' _ => ?_
      have := run_equalIn_nil hu ad l.length c 9999 w'
      simp only [binOp, Op.equal, Op.maxDepth, Sem.run_bind, this, Result.andThen_ok, Sem.run_pure]
    · refine binYields_of (by simp) (by simp) fun w' _ => ?_
      have := run_equalIn_nil hu ad l.length c 9999 w'
      simp only [binOp, Op.equal, Op.maxDepth, Sem.run_bind, this, Result.andThen_ok, Sem.run_pure]
  · cases ht

theorem nilB_rel {x : AV} {q : Bool} : RelV w N μ H (nilB x q) (.bool q) := by
  unfold nilB
  split <;> simp [RelV]

theorem run_equalIn_ptr {t e : TypeId} (hu : P.underlying t = some (.pointer e)) (ad : Option Addr) (d : Nat) (w' : World) : (Op.equalIn (d + 1) t (.pointer ad) (.pointer none)).run P w' = .ok ad.isNone w' := by
  unfold Op.equalIn
  cases ad <;> simp [run_underlying hu]

theorem run_equalIn_map {t k e : TypeId} (hu : P.underlying t = some (.map k e)) (ad : Option Nat) (d : Nat) (w' : World) : (Op.equalIn (d + 1) t (.map ad) (.map none)).run P w' = .ok ad.isNone w' := by
  unfold Op.equalIn
  cases ad <;> simp [run_underlying hu]

theorem nilRef_yields {t : TypeId} {x : AV} {a v : Value} {q : Bool} (h : nilRef P t x v = some q) (hx : RelV w N μ H x a) : BinYields P w .eql t a v (.bool q) ∧ BinYields P w .neq t a v (.bool (!q)) := by
  have ptr : ∀ {e : TypeId} (ad : Option Addr), P.underlying t = some (.pointer e) → ad.isNone = q → BinYields P w .eql t (.pointer ad) (.pointer none) (.bool q) ∧ BinYields P w .neq t (.pointer ad) (.pointer none) (.bool (!q)) := fun ad hu hq => by
    subst hq
    constructor
    · refine binYields_of (by simp) (by simp) fun w' _ => ?_
      have := run_equalIn_ptr hu ad 9999 w'
      simp only [binOp, Op.equal, Op.maxDepth, Sem.run_bind, this, Result.andThen_ok, Sem.run_pure]
    · refine binYields_of (by simp) (by simp) fun w' _ => ?_
      have := run_equalIn_ptr hu ad 9999 w'
      simp only [binOp, Op.equal, Op.maxDepth, Sem.run_bind, this, Result.andThen_ok, Sem.run_pure]
  have map : ∀ {k e : TypeId} (ad : Option Nat), P.underlying t = some (.map k e) → ad.isNone = q → BinYields P w .eql t (.map ad) (.map none) (.bool q) ∧ BinYields P w .neq t (.map ad) (.map none) (.bool (!q)) := fun ad hu hq => by
    subst hq
    constructor
    · refine binYields_of (by simp) (by simp) fun w' _ => ?_
      have := run_equalIn_map hu ad 9999 w'
      simp only [binOp, Op.equal, Op.maxDepth, Sem.run_bind, this, Result.andThen_ok, Sem.run_pure]
    · refine binYields_of (by simp) (by simp) fun w' _ => ?_
      have := run_equalIn_map hu ad 9999 w'
      simp only [binOp, Op.equal, Op.maxDepth, Sem.run_bind, this, Result.andThen_ok, Sem.run_pure]
  unfold nilRef at h
  split at h
  · rename_i e b o hu
    cases h
    simp only [RelV] at hx
    obtain ⟨_, g, _, rfl⟩ := hx
    exact ptr _ hu rfl
  · rename_i e c b o hu
    cases h
    simp only [RelV] at hx
    obtain ⟨_, ⟨rfl, g, _, rfl⟩ | ⟨rfl, rfl⟩⟩ := hx
    · exact ptr _ hu rfl
    · exact ptr _ hu rfl
  · rename_i e hu
    cases h
    simp only [RelV] at hx
    subst hx
    exact ptr _ hu rfl
  · rename_i k e b hu
    cases h
    simp only [RelV] at hx
    obtain ⟨_, g, _, rfl⟩ := hx
    exact map _ hu rfl
  · rename_i k e hu
    cases h
    simp only [RelV] at hx
    subst hx
    exact map _ hu rfl
  · cases h

theorem evBinS_ok {op : BinOp} {t : TypeId} {x y : AV} {a b : Value} {K : Bool → AV → Option α} (hx : RelV w N μ H x a) (hy : RelV w N μ H y b) (h : evVal.evBinS P op t x y K = some r) :
    ∃ side v, K side v = some r ∧ (side = true → ∃ val, RelV w N μ H v val ∧ BinYields P w op t a b val) := by
  unfold evVal.evBinS at h
  split at h
  · rename_i k m k' n
    simp only [RelV] at hx hy; subst hx; subst hy
    obtain ⟨hk, hc⟩ := cond_some h
    have hk' : k = k' := by simpa using hk
    subst hk'
    refine ⟨_, _, hc, fun hs => ⟨_, wr_ok, binYields_of (by simp) (by simp) fun w' _ => ?_⟩⟩
    have hn : n ≠ 0 := by simpa using hs
    rw [binOp_int (by simp) (by simp)]
    simp [intOp, Op.intDiv, hn]
  · rename_i k m k' n
    simp only [RelV] at hx hy; subst hx; subst hy
    obtain ⟨hk, hc⟩ := cond_some h
    have hk' : k = k' := by simpa using hk
    subst hk'
    refine ⟨_, _, hc, fun hs => ⟨.int k (m.tmod n), rfl, binYields_of (by simp) (by simp) fun w' _ => ?_⟩⟩
    have hn : n ≠ 0 := by simpa using hs
    rw [binOp_int (by simp) (by simp)]
    simp [intOp, Op.intDiv, hn]
  · rename_i m n
    simp only [RelV] at hx hy; subst hx; subst hy
    refine ⟨_, _, h, fun hs => ⟨.int .u8 ((m / n).toNat : Int), rfl, binYields_of (by simp) (by simp) fun w' _ => ?_⟩⟩
    have hn : n ≠ 0 := by simpa using hs
    have hn' : ¬ n.toNat = 0 := fun h0 => hn (UInt8.toNat_inj.1 (by simpa using h0))
    have hn'' : ¬ (n.toNat : Int) = 0 := by omega
    have hm := u8_toNat m
    rw [binOp_int (by simp) (by simp)]
    simp only [intOp, Op.intDiv, hn'', if_false, Sem.run_pure]
    refine congrArg (fun z => Result.ok (Value.int .u8 z) w') ?_
    rw [wrap_u8, UInt8.toNat_div, ← Int.ofNat_tdiv]
    have h3 := Nat.div_le_self m.toNat n.toNat
    generalize m.toNat / n.toNat = q at h3 ⊢
    omega
  · rename_i m n
    simp only [RelV] at hx hy; subst hx; subst hy
    refine ⟨_, _, h, fun hs => ⟨.int .u8 ((m % n).toNat : Int), rfl, binYields_of (by simp) (by simp) fun w' _ => ?_⟩⟩
    have hn : n ≠ 0 := by simpa using hs
    have hn' : ¬ n.toNat = 0 := fun h0 => hn (UInt8.toNat_inj.1 (by simpa using h0))
    have hn'' : ¬ (n.toNat : Int) = 0 := by omega
    rw [binOp_int (by simp) (by simp)]
    simp only [intOp, Op.intDiv, hn'', if_false, Sem.run_pure]
    refine congrArg (fun z => Result.ok (Value.int .u8 z) w') ?_
    rw [UInt8.toNat_mod, Int.ofNat_tmod]
  · rename_i m n
    simp only [RelV] at hx hy; subst hx; subst hy
    refine ⟨_, _, h, fun hs => ⟨.string ⟨(m ++ n).toArray⟩, rfl, binYields_of (by simp) (by simp) fun w' _ => ?_⟩⟩
    have hl : m.length + n.length ≤ 9223372036854775807 := by simpa [fits] using hs
    have he : (IntKind.i64.max : Int) = 9223372036854775807 := by decide
    have hsz : ¬ (((⟨m.toArray⟩ : ByteArray).size + (⟨n.toArray⟩ : ByteArray).size : Nat) : Int) > IntKind.i64.max := by
      rw [he]
      have h1 : (⟨m.toArray⟩ : ByteArray).size = m.length := by simp [ByteArray.size]
      have h2 : (⟨n.toArray⟩ : ByteArray).size = n.length := by simp [ByteArray.size]
      rw [h1, h2]; omega
    have : binOp .add t (.string ⟨m.toArray⟩) (.string ⟨n.toArray⟩) = Op.stringOp .add ⟨m.toArray⟩ ⟨n.toArray⟩ := by simp [binOp]
    rw [this]
    simp only [Op.stringOp, if_neg hsz, Sem.run_pure, ByteArray.mk_append_mk]
  · rename_i k m k' n
    simp only [RelV] at hx hy; subst hx; subst hy
    refine ⟨_, _, h, fun hs => ⟨_, wr_ok, binYields_of (by simp) (by simp) fun w' _ => ?_⟩⟩
    have hn : ¬ n < 0 := by have : 0 ≤ n := by simpa using hs
                            omega
    simp [binOp, Op.shift, hn]
  · rename_i k m k' n
    simp only [RelV] at hx hy; subst hx; subst hy
    refine ⟨_, _, h, fun hs => ⟨.int k (m.fdiv (2 ^ (min n.toNat k.bits))), rfl, binYields_of (by simp) (by simp) fun w' _ => ?_⟩⟩
    have hn : ¬ n < 0 := by have : 0 ≤ n := by simpa using hs
                            omega
    simp [binOp, Op.shift, hn]
  · obtain ⟨h1, h2⟩ := cond_some h
    simp only [Bool.and_eq_true] at h1
    simp only [RelV] at hy
    have hy' := isNilSl_eq h1.1
    subst hy
    subst hy'
    obtain ⟨q, hq, h3, _⟩ := nil_yields h1.2 hx
    exact ⟨true, _, nilEq_ok hq h2, fun _ => ⟨.bool q, rfl, h3⟩⟩
  · obtain ⟨h1, h2⟩ := cond_some h
    simp only [Bool.and_eq_true] at h1
    simp only [RelV] at hy
    have hy' := isNilSl_eq h1.1
    subst hy
    subst hy'
    obtain ⟨q, hq, _, h3⟩ := nil_yields h1.2 hx
    exact ⟨true, _, nilEq_ok hq h2, fun _ => ⟨.bool (!q), rfl, h3⟩⟩
  · split at h
    · rename_i q hq
      simp only [RelV] at hy
      subst hy
      exact ⟨true, _, h, fun _ => ⟨.bool q, nilB_rel, (nilRef_yields hq hx).1⟩⟩
    · obtain ⟨v, val, hK, hv, hb⟩ := evBin_ok hx hy h
      exact ⟨true, v, hK, fun _ => ⟨val, hv, hb⟩⟩
  · split at h
    · rename_i q hq
      simp only [RelV] at hy
      subst hy
      exact ⟨true, _, h, fun _ => ⟨.bool (!q), nilB_rel, (nilRef_yields hq hx).2⟩⟩
    · obtain ⟨v, val, hK, hv, hb⟩ := evBin_ok hx hy h
      exact ⟨true, v, hK, fun _ => ⟨val, hv, hb⟩⟩
  · obtain ⟨v, val, hK, hv, hb⟩ := evBin_ok hx hy h
    exact ⟨true, v, hK, fun _ => ⟨val, hv, hb⟩⟩

theorem evUn_ok {op : UnOp} {x : AV} {a : Value} {K : AV → Option α} (hx : RelV w N μ H x a) (h : evUn op x K = some r) :
    ∃ v val, K v = some r ∧ RelV w N μ H v val ∧ ∀ w', (Op.unary op a).run P w' = .ok val w' := by
  unfold evUn at h
  split at h
  · simp only [RelV] at hx; subst hx
    exact ⟨_, _, h, wr_ok, fun w' => by simp [Op.unary, Op.intArith]⟩
  · simp only [RelV] at hx; subst hx
    exact ⟨_, _, h, rfl, fun w' => by simp [Op.unary]⟩
  · simp only [RelV] at hx; subst hx
    exact ⟨_, _, h, rfl, fun w' => by simp [Op.unary]⟩
  · cases h

theorem natOf_ok {x : AV} {a : Value} {K : Int → Option α} (hx : RelV w N μ H x a) (h : natOf x K = some r) : ∃ k n, a = .int k n ∧ K n = some r := by
  cases x <;> first | (simp only [natOf, reduceCtorEq] at h; done) | simp only [natOf] at h
  · simp only [RelV] at hx; exact ⟨_, _, hx, h⟩
  · simp only [RelV] at hx; exact ⟨_, _, hx, h⟩

/-- A bound that is left out, or an int. -/
def IsBound (v : Option Value) (d n : Int) : Prop := (v = none ∧ n = d) ∨ ∃ k, v = some (.int k n)

theorem boundOf_ok {ρ : Operand → Value} {ρA : Operand → AV} (hρ : ∀ x, RelG w N μ H ρ (ρA x) (ρ x)) {x : Option Operand} {d : Int} {K : Int → Option α}
    (h : boundOf (x.map ρA) d K = some r) : ∃ n, K n = some r ∧ IsBound (x.map ρ) d n := by
  cases x with
  | none => exact ⟨d, h, .inl ⟨rfl, rfl⟩⟩
  | some x =>
    obtain ⟨k, n, ha, hK⟩ := natOf_ok (hρ x).rel h
    exact ⟨n, hK, .inr ⟨k, by simp [ha]⟩⟩

theorem run_bounds {isSlice : Bool} {len cap : Nat} {lo hi : Option Value} {a z : Int} (hlo : IsBound lo 0 a) (hhi : IsBound hi len z) (h0 : 0 ≤ a) (h1 : a ≤ z) (h2 : z ≤ (len : Int)) (hc : len ≤ cap) (w' : World) :
    (Instr.sliceBounds isSlice len cap lo hi none).run P w' = .ok (a.toNat, z.toNat, cap) w' := by
  have e1 : 0 ≤ z ∧ z ≤ (cap : Int) := ⟨by omega, by omega⟩
  have e2 : 0 ≤ a ∧ a ≤ ((z.toNat : Nat) : Int) := ⟨h0, by omega⟩
  have e3 : 0 ≤ a ∧ a ≤ (len : Int) := ⟨h0, by omega⟩
  rcases hlo with ⟨rfl, rfl⟩ | ⟨k, rfl⟩ <;> rcases hhi with ⟨rfl, rfl⟩ | ⟨k', rfl⟩ <;>
    simp only [Instr.sliceBounds, Instr.sliceBound, asIntOf, Sem.run_bind, Sem.run_pure, Result.andThen_ok, Sem.run_ite, e1, e2, e3, and_self, if_true, Option.isSome_none, Bool.false_eq_true, if_false, Int.toNat_zero, Int.toNat_natCast]

theorem szOK_run {e : TypeId} {t : Ty} (h : szOK P e t = true) (w' : World) : (sizeOf e).run P w' = .ok t.size w' := by
  unfold szOK at h
  cases hi : P.info? e with
  | none => simp [hi] at h
  | some i =>
    simp only [hi] at h
    rw [run_sizeOf hi, Nat.eq_of_beq_eq_true h]

theorem run_sliceOf {t e : TypeId} {ty : Ty} (ht : P.underlying t = some (.slice e)) (hs : szOK P e ty = true) {ad : Option Addr} {len cap : Nat} {lo hi : Option Value} {a z : Int}
    (hlo : IsBound lo 0 a) (hhi : IsBound hi len z) (h0 : 0 ≤ a) (h1 : a ≤ z) (h2 : z ≤ (len : Int)) (hc : len ≤ cap) (w' : World) :
    (Instr.sliceAt t (.slice ad len cap) lo hi none).run P w' =
      .ok (.slice (if cap = a.toNat then ad else ad.map (·.add (a.toNat * ty.size))) (z.toNat - a.toNat) (cap - a.toNat)) w' := by
  have hu := run_underlying ht w'
  simp only [Instr.sliceAt, Sem.run_bind, hu, Result.andThen_ok, Instr.slice, run_bounds hlo hhi h0 h1 h2 hc, szOK_run hs, Sem.run_pure]

theorem run_sliceStr {t : TypeId} (ht : P.underlying t = some .string) {s : List UInt8} {lo hi : Option Value} {a z : Int}
    (hlo : IsBound lo 0 a) (hhi : IsBound hi (s.length : Int) z) (h0 : 0 ≤ a) (h1 : a ≤ z) (h2 : z ≤ (s.length : Int)) (w' : World) :
    (Instr.sliceAt t (.string ⟨s.toArray⟩) lo hi none).run P w' = .ok (.string ⟨((s.drop a.toNat).take (z.toNat - a.toNat)).toArray⟩) w' := by
  have hu := run_underlying ht w'
  have hsz : (⟨s.toArray⟩ : ByteArray).size = s.length := by simp [ByteArray.size]
  have hb := run_bounds (P := P) (isSlice := false) hlo hhi h0 h1 h2 (Nat.le_refl _) w'
  simp [Instr.sliceAt, hu, Instr.slice, hsz, hb, ByteArray.extract_mk]

end
end Go.Ev
