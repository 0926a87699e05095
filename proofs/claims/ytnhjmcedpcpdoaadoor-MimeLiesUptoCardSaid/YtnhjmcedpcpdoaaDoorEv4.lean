/- The operations that only yield a value, 2. -/
import Derived.Test.YtnhjmcedpcpdoaaDoorEv3
namespace Go.Ev
open Go
section
variable {P : Program} {w : World} {N : Nat → Prop} {μ : Nat → Option Nat} {H : Nat → Blk} {α : Type} {r : α}

theorem RelG.rel {ρ : Operand → Value} {x : AV} {v : Value} (h : RelG w N μ H ρ x v) : RelV w N μ H x v := by
  cases x <;> first | exact h | simp [RelV]

/-! Integers. -/
theorem wrap_i64_w64 (n : Int) : IntKind.i64.wrap n = w64 n := rfl

theorem wr_ok {k : IntKind} {n : Int} : RelV w N μ H (wr k n) (.int k (k.wrap n)) := by
  cases k <;> simp [wr, RelV, w64]

theorem u8_toNat (x : UInt8) : x.toNat < 256 := by have := x.toNat_lt; omega

theorem wrap_u8 (n : Int) : IntKind.u8.wrap n = n % 256 := by
  simp [IntKind.wrap, IntKind.bits, IntKind.signed]

theorem u8of_toNat (n : Int) : ((u8of n).toNat : Int) = IntKind.u8.wrap n := by
  rw [wrap_u8, u8of, UInt8.toNat_ofNat']
  omega

theorem eqGuard_int (op : BinOp) (t : TypeId) (x y : Operand) (a b : Value) (w : World) (h1 : ∀ cs, a ≠ .agg cs) (h2 : a ≠ .nilIface) : (eqGuard op t x y a b).run P w = .ok () w := by
  unfold eqGuard
  cases op <;> simp <;> (cases a <;> simp_all)

def BinYields (P : Program) (_w : World) (op : BinOp) (t : TypeId) (a b : Value) (val : Value) : Prop := ∀ w', True → ∀ x y : Operand, ((do eqGuard op t x y a b; binOp op t a b : Sem Value)).run P w' = .ok val w'

theorem yields_bin {X : Nat → Nat → Prop} {ρ : Operand → Value} {op : BinOp} {t : TypeId} {x y : Operand} {ty : TypeId} {val : Value} (h : BinYields P w op t (ρ x) (ρ y) val) : Yields P X w ρ (.binOp op t x y ty) val := by
  intro o ho w' hw
  have := h w' trivial x y
  simp only [execOp, ho, Sem.run_bind] at this ⊢
  generalize hq : ((eqGuard op t x y (ρ x) (ρ y)).run P w').andThen _ = q at this ⊢
  subst this
  simp

theorem binYields_of {op : BinOp} {t : TypeId} {a b val : Value} (h1 : ∀ cs, a ≠ .agg cs) (h2 : a ≠ .nilIface) (h : ∀ w', True → (binOp op t a b).run P w' = .ok val w') : BinYields P w op t a b val := by
  intro w' hw x y
  simp only [Sem.run_bind, eqGuard_int op t x y a b w' h1 h2, Result.andThen_ok, h w' trivial]

def intOp (op : BinOp) (k : IntKind) (x y : Int) : Sem Value :=
  match op with
  | .add | .sub | .mul => Op.intArith op k x y
  | .quo | .rem => Op.intDiv op k x y
  | .and | .or | .xor | .andNot => Op.intBits op k x y
  | _ => Op.intCmp op x y

theorem binOp_int {op : BinOp} {t : TypeId} {k : IntKind} {x y : Int} (h1 : op ≠ .shl) (h2 : op ≠ .shr) : binOp op t (.int k x) (.int k y) = intOp op k x y := by
  cases op <;> first | exact absurd rfl h1 | exact absurd rfl h2 | simp [binOp, intOp]

theorem intBin_ok {op : BinOp} {t : TypeId} {k : IntKind} {x y : Int} {K : AV → Option α} (h : intBin op k x y K = some r) :
    ∃ v val, K v = some r ∧ RelV w N μ H v val ∧ BinYields P w op t (.int k x) (.int k y) val := by
  have key : ∀ (hs : op ≠ .shl) (hs' : op ≠ .shr) (val : Value), (∀ w', (intOp op k x y).run P w' = .ok val w') → BinYields P w op t (.int k x) (.int k y) val := fun hs hs' val hh =>
    binYields_of (by simp) (by simp) fun w' _ => by rw [binOp_int hs hs']; exact hh w'
  cases op <;> simp only [intBin, reduceCtorEq] at h
  case add => exact ⟨_, _, h, wr_ok, key (by simp) (by simp) _ fun w' => by simp [intOp, Op.intArith]⟩
  case sub => exact ⟨_, _, h, wr_ok, key (by simp) (by simp) _ fun w' => by simp [intOp, Op.intArith]⟩
  case mul => exact ⟨_, _, h, wr_ok, key (by simp) (by simp) _ fun w' => by simp [intOp, Op.intArith]⟩
  case and => exact ⟨_, .int k (bitsOf .and k x y), h, by simp [RelV], key (by simp) (by simp) _ fun w' => by simp [intOp, Op.intBits, bitsOf]⟩
  case or => exact ⟨_, .int k (bitsOf .or k x y), h, by simp [RelV], key (by simp) (by simp) _ fun w' => by simp [intOp, Op.intBits, bitsOf]⟩
  case xor => exact ⟨_, .int k (bitsOf .xor k x y), h, by simp [RelV], key (by simp) (by simp) _ fun w' => by simp [intOp, Op.intBits, bitsOf]⟩
  case andNot => exact ⟨_, .int k (bitsOf .andNot k x y), h, by simp [RelV], key (by simp) (by simp) _ fun w' => by simp [intOp, Op.intBits, bitsOf]⟩
  all_goals refine ⟨_, _, h, by simp only [RelV]; rfl, key (by simp) (by simp) _ fun w' => ?_⟩
  · simp [intOp, Op.intCmp]; rfl
  · simp [intOp, Op.intCmp, bne]; rfl
  · simp [intOp, Op.intCmp]
  · simp [intOp, Op.intCmp]
  · simp [intOp, Op.intCmp]
  · simp [intOp, Op.intCmp]

theorem u8Bin_ok {op : BinOp} {t : TypeId} {x y : UInt8} {K : AV → Option α} (h : u8Bin op x y K = some r) :
    ∃ v val, K v = some r ∧ RelV w N μ H v val ∧ BinYields P w op t (.int .u8 (x.toNat : Int)) (.int .u8 (y.toNat : Int)) val := by
  have hx := u8_toNat x
  have hy := u8_toNat y
  have key : ∀ (hs : op ≠ .shl) (hs' : op ≠ .shr) (val : Value), (∀ w', (intOp op .u8 (x.toNat : Int) (y.toNat : Int)).run P w' = .ok val w') → BinYields P w op t (.int .u8 (x.toNat : Int)) (.int .u8 (y.toNat : Int)) val := fun hs hs' val hh =>
    binYields_of (by simp) (by simp) fun w' _ => by rw [binOp_int hs hs']; exact hh w'
  have eqb : ((x.toNat : Int) == (y.toNat : Int)) = decide (x = y) := by
    rw [Bool.eq_iff_iff]; simp only [beq_iff_eq, decide_eq_true_eq]
    exact ⟨fun h => UInt8.toNat_inj.1 (by omega), fun h => by rw [h]⟩
  have back : ∀ v : BitVec 8, (IntKind.u8.wrap (v.toNat : Int)) = ((UInt8.ofBitVec v).toNat : Int) := fun v => by
    rw [wrap_u8]; have := v.isLt; show _ = (v.toNat : Int); omega
  have bv : ∀ z : UInt8, BitVec.ofInt 8 (z.toNat : Int) = z.toBitVec := fun z => by
    rw [BitVec.ofInt_natCast]
    apply BitVec.eq_of_toNat_eq
    rw [BitVec.toNat_ofNat, ← UInt8.toNat_toBitVec]
    have := z.toBitVec.isLt
    omega
  cases op <;> simp only [u8Bin, reduceCtorEq] at h
  case add => exact ⟨_, _, h, by simp only [RelV]; rfl, key (by simp) (by simp) _ fun w' => by
      simp only [intOp, Op.intArith, Sem.run_pure]; refine congrArg (fun z => Result.ok (Value.int .u8 z) w') ?_; rw [wrap_u8, UInt8.toNat_add]; try omega⟩
  case sub => exact ⟨_, _, h, by simp only [RelV]; rfl, key (by simp) (by simp) _ fun w' => by
      simp only [intOp, Op.intArith, Sem.run_pure]; refine congrArg (fun z => Result.ok (Value.int .u8 z) w') ?_; rw [wrap_u8, UInt8.toNat_sub]; try omega⟩
  case mul => exact ⟨_, _, h, by simp only [RelV]; rfl, key (by simp) (by simp) _ fun w' => by
      simp only [intOp, Op.intArith, Sem.run_pure]; refine congrArg (fun z => Result.ok (Value.int .u8 z) w') ?_; rw [wrap_u8, UInt8.toNat_mul]; try simp⟩
  case and => exact ⟨_, _, h, by simp only [RelV]; rfl, key (by simp) (by simp) _ fun w' => by
      simp only [intOp, Op.intBits, Sem.run_pure]; congr 1; congr 1; show IntKind.u8.wrap (((BitVec.ofInt 8 (x.toNat : Int) &&& BitVec.ofInt 8 (y.toNat : Int) : BitVec 8).toNat : Nat) : Int) = _; rw [back, bv, bv]; rfl⟩
  case or => exact ⟨_, _, h, by simp only [RelV]; rfl, key (by simp) (by simp) _ fun w' => by
      simp only [intOp, Op.intBits, Sem.run_pure]; congr 1; congr 1; show IntKind.u8.wrap (((BitVec.ofInt 8 (x.toNat : Int) ||| BitVec.ofInt 8 (y.toNat : Int) : BitVec 8).toNat : Nat) : Int) = _; rw [back, bv, bv]; rfl⟩
  case xor => exact ⟨_, _, h, by simp only [RelV]; rfl, key (by simp) (by simp) _ fun w' => by
      simp only [intOp, Op.intBits, Sem.run_pure]; congr 1; congr 1; show IntKind.u8.wrap (((BitVec.ofInt 8 (x.toNat : Int) ^^^ BitVec.ofInt 8 (y.toNat : Int) : BitVec 8).toNat : Nat) : Int) = _; rw [back, bv, bv]; rfl⟩
  case andNot => exact ⟨_, _, h, by simp only [RelV]; rfl, key (by simp) (by simp) _ fun w' => by
      simp only [intOp, Op.intBits, Sem.run_pure]; congr 1; congr 1; show IntKind.u8.wrap (((BitVec.ofInt 8 (x.toNat : Int) &&& ~~~ BitVec.ofInt 8 (y.toNat : Int) : BitVec 8).toNat : Nat) : Int) = _; rw [back, bv, bv]; rfl⟩
  all_goals refine ⟨_, _, h, by simp only [RelV]; rfl, key (by simp) (by simp) _ fun w' => ?_⟩
  · simp only [intOp, Op.intCmp, Sem.run_pure, eqb]
  · simp only [intOp, Op.intCmp, Sem.run_pure, bne, eqb]
  · simp [intOp, Op.intCmp]
  · simp [intOp, Op.intCmp]
  · simp [intOp, Op.intCmp]
  · simp [intOp, Op.intCmp]

theorem bytes_eq (x y : List UInt8) : ((⟨x.toArray⟩ : ByteArray).toList == (⟨y.toArray⟩ : ByteArray).toList) = decide (x = y) := by
  simp [ByteArray.toList_mk]; rw [Bool.eq_iff_iff]; simp

theorem strBin_ok {op : BinOp} {t : TypeId} {x y : List UInt8} {K : AV → Option α} (h : strBin op x y K = some r) :
    ∃ v val, K v = some r ∧ RelV w N μ H v val ∧ BinYields P w op t (.string ⟨x.toArray⟩) (.string ⟨y.toArray⟩) val := by
  have key : ∀ (hs : op ≠ .shl) (hs' : op ≠ .shr) (val : Value), (∀ w', (Op.stringOp op (⟨x.toArray⟩ : ByteArray) ⟨y.toArray⟩).run P w' = .ok val w') →
      BinYields P w op t (.string ⟨x.toArray⟩) (.string ⟨y.toArray⟩) val := fun hs hs' val hh =>
    binYields_of (by simp) (by simp) fun w' _ => by
      have : binOp op t (.string ⟨x.toArray⟩) (.string ⟨y.toArray⟩) = Op.stringOp op ⟨x.toArray⟩ ⟨y.toArray⟩ := by cases op <;> simp_all [binOp]
      rw [this]; exact hh w'
  have hb : (x == y) = decide (x = y) := by rw [Bool.eq_iff_iff]; simp
  cases op <;> simp only [strBin, reduceCtorEq] at h
  all_goals refine ⟨_, _, h, by simp only [RelV]; rfl, key (by simp) (by simp) _ fun w' => ?_⟩
  all_goals simp only [Op.stringOp, ByteArray.toList_mk, hb, Sem.run_pure]

theorem eqCell_ok {x y : AV} {a b : Value} {K : Bool → Option α} (hx : RelV w N μ H x a) (hy : RelV w N μ H y b) (h : eqCell x y K = some r) :
    ∃ q, K q = some r ∧ ((∃ k m n, a = .int k m ∧ b = .int k n ∧ q = (m == n)) ∨ (∃ m n : ByteArray, a = .string m ∧ b = .string n ∧ q = (m == n)) ∨ (∃ m n, a = .bool m ∧ b = .bool n ∧ q = (m == n))) := by
  cases x <;> cases y <;> simp only [eqCell, reduceCtorEq] at h <;> simp only [RelV] at hx hy <;> subst hx <;> subst hy
  case i.i k m k' n =>
    by_cases hk : k = k'
    · subst hk; simp at h
      refine ⟨_, h, .inl ⟨k, m, n, rfl, rfl, ?_⟩⟩
      rw [Bool.eq_iff_iff]; simp
    · simp [hk] at h
  case u.u m n =>
    refine ⟨_, h, .inl ⟨.u8, _, _, rfl, rfl, ?_⟩⟩
    rw [Bool.eq_iff_iff]; simp only [beq_iff_eq, decide_eq_true_eq]
    exact ⟨fun h => by rw [h], fun h => UInt8.toNat_inj.1 (by omega)⟩
  case s.s m n =>
    refine ⟨_, h, .inr (.inl ⟨_, _, rfl, rfl, ?_⟩)⟩
    rw [beq_toListBytes, bytes_eq]
  all_goals exact ⟨_, h, .inr (.inr ⟨_, _, rfl, rfl, rfl⟩)⟩

end
end Go.Ev
