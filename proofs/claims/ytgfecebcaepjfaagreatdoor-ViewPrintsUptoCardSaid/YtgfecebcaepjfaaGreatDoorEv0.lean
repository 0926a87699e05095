/- The abstract evaluator: definitions. -/
import Derived.Below
namespace Go.Ev

/-- Codes of plain data types. -/
inductive Ty where
  | int (k : IntKind) | u8 | bool | str | sl (t : Ty) | unit | pair (a b : Ty)
  deriving DecidableEq

@[reducible] def Ty.den : Ty → Type
  | .int _ => Int | .u8 => UInt8 | .bool => Bool | .str => List UInt8 | .sl t => List t.den | .unit => Unit | .pair a b => a.den × b.den

def Ty.dflt : (t : Ty) → t.den
  | .int _ => (0 : Int) | .u8 => (0 : UInt8) | .bool => false | .str => ([] : List UInt8) | .sl t => ([] : List t.den) | .unit => () | .pair a b => (a.dflt, b.dflt)

def Ty.size : Ty → Nat
  | .unit => 0 | .pair a b => a.size + b.size | _ => 1

/-- so many of a kind -/
def Ty.rep (t : Ty) : Nat → Ty
  | 0 => .unit
  | n + 1 => .pair t (t.rep n)

/-- Abstract values. -/
inductive AV where
  | i (k : IntKind) (n : Int)
  | u (x : UInt8)
  | b (x : Bool)
  | kb (x : Bool)
  | s (x : List UInt8)
  | c (v : Value)
  | sl (t : Ty) (l : List t.den)
  | fp (t : Ty) (l : List t.den) (ix f : Nat)
  | ptr (b o : Nat)
  | ep (b : Nat) (t : Ty) (ix f : Nat)
  | wh (b : Nat)
  | win (b lo n : Nat)
  | mp (b : Nat)
  /-- a pointer, if c, or nil -/
  | mptr (c : Bool) (b o : Nat)
  | fn (f : FuncId) (cs : List AV)
  | agg (cs : List AV)
  | tup (cs : List AV)
  | gd (j : Nat) (want : Bool) (x : AV)
  /-- a value in an interface -/
  | ifc (t : TypeId) (x : AV)
  /-- what a call panics with, where it does -/
  | pan (x : AV)
  | bad

instance : Inhabited AV := ⟨.bad⟩

/-- Abstract blocks. -/
inductive Blk where
  | dead
  | vars (cs : List AV)
  | data (t : Ty) (l : List t.den)
  | iter (s : List UInt8) (pos : Nat)
  /-- a map: keys, elements (are they structs or arrays?), entries -/
  | mapd (kt vt : Ty) (ag : Bool) (l : List (kt.den × vt.den))

/-- Blocks that calls leave where they are: variables, maps. -/
def Blk.tag : Blk → Nat
  | .vars _ => 1
  | .mapd _ _ _ _ => 2
  | _ => 0

/-! Maps: lists of keys and elements. -/
def keyEq : (t : Ty) → t.den → t.den → Bool
  | .str, a, b => decide (a = b)
  | .int _, a, b => decide (a = b)
  | _, _, _ => false

def mapGet (t : Ty) {β : Type} : List (t.den × β) → t.den → Option β
  | [], _ => none
  | e :: r, k => cond (keyEq t e.1 k) (some e.2) (mapGet t r k)

def mapSet (t : Ty) {β : Type} : List (t.den × β) → t.den → β → List (t.den × β)
  | [], k, x => [(k, x)]
  | e :: r, k, x => cond (keyEq t e.1 k) ((k, x) :: r) (e :: mapSet t r k x)

def mapDel (t : Ty) {β : Type} : List (t.den × β) → t.den → List (t.den × β)
  | [], _ => []
  | e :: r, k => cond (keyEq t e.1 k) r (e :: mapDel t r k)

def castM {k1 v1 k2 v2 : Ty} (h1 : k1 = k2) (h2 : v1 = v2) (l : List (k1.den × v1.den)) : List (k2.den × v2.den) := h1 ▸ h2 ▸ l

structure St where
  E : Nat → AV
  H : Nat → Blk
  nx : Nat
  /-- the blocks of which references have been struck out -/
  kl : List Nat

/-- How a piece of code is left. -/
inductive Ex where
  | normal | exit (id : Nat) | ret | pan
  deriving DecidableEq

def upd (E : Nat → AV) (d : Nat) (v : AV) : Nat → AV := fun t => cond (Nat.beq t d) v (E t)
def updH (H : Nat → Blk) (d : Nat) (v : Blk) : Nat → Blk := fun t => cond (Nat.beq t d) v (H t)

def St.put (S : St) (d : Option Nat) (v : AV) : St :=
  match d with
  | some d => ⟨upd S.E d v, S.H, S.nx, S.kl⟩
  | none => S

/-! Constants of the program. -/
def absCell : Value → AV
  | .int .u8 n => cond (decide (0 ≤ n) && decide (n < 256)) (.u (UInt8.ofNat n.toNat)) .bad
  | .int k n => .i k n
  | .bool x => .kb x
  | .string s => .s s.data.toList
  | .agg _ => .bad
  | .tuple _ => .bad
  | v => .c v

def absV : Value → AV
  | .agg cs => .agg (cs.toList.map absCell)
  | v => absCell v

def opd (E : Nat → AV) : Operand → AV
  | .tmp t => E t
  | .const v => absV v
  | .global _ => .bad
  | .func f => .fn f []

/-! Data as cells. -/
def encc : (t : Ty) → t.den → List AV
  | .int k, n => [.i k n] | .u8, x => [.u x] | .bool, x => [.b x] | .str, x => [.s x] | .sl t, l => [.sl t l]
  | .unit, _ => [] | .pair a b, p => encc a p.1 ++ encc b p.2

/-- Read data of a type off a list of cells: what they are, and the cells that are left. -/
def dec {α : Type} : (t : Ty) → List AV → (t.den → List AV → Option α) → Option α
  | .int k, .i k' n :: r, K => cond (decide (k' = k)) (K n r) none
  | .u8, .u x :: r, K => K x r
  | .bool, .b x :: r, K => K x r
  | .bool, .kb x :: r, K => K x r
  | .str, .s x :: r, K => K x r
  | .sl t, .sl t' l :: r, K => if h : t' = t then K (h ▸ l) r else none
  | .sl _, .c (.slice none 0 0) :: r, K => K [] r
  | .unit, r, K => K () r
  | .pair a b, r, K => dec a r fun x r => dec b r fun y r => K (x, y) r
  | _, _, _ => none

def notAgg : Value → Bool
  | .agg _ => false
  | _ => true

/-- The cells of a value. -/
def cellsK {α : Type} (v : AV) (K : List AV → Option α) : Option α :=
  match v with
  | .agg cs => K cs
  | .bad => none
  | .gd _ _ _ => none
  | .tup _ => none
  | .pan _ => none
  | .c u => cond (notAgg u) (K [.c u]) none
  | v => K [v]

/-- a value that one cell holds, known -/
def okCell : AV → Bool
  | .bad => false
  | .gd _ _ _ => false
  | .agg _ => false
  | .tup _ => false
  | .pan _ => false
  | .c (.agg _) => false
  | .c (.tuple _) => false
  | _ => true

/-! Integers. -/
def w64 (n : Int) : Int := IntKind.i64.wrap n
def wr (k : IntKind) (n : Int) : AV :=
  match k with
  | .i64 => .i .i64 (w64 n)
  | .u8 => .bad
  | k => .i k (k.wrap n)
def u8of (n : Int) : UInt8 := UInt8.ofNat (n % 256).toNat
def bitsOf (op : BinOp) (k : IntKind) (x y : Int) : Int :=
  let a := BitVec.ofInt k.bits x
  let b := BitVec.ofInt k.bits y
  match op with
  | .and => k.wrap (a &&& b).toNat
  | .or => k.wrap (a ||| b).toNat
  | .xor => k.wrap (a ^^^ b).toNat
  | _ => k.wrap (a &&& ~~~b).toNat

section
variable {α : Type}

/-- 'if side holds, go on'. -/
def need (side : Bool) (r : Option α) : Option α := cond side r none

def intBin (op : BinOp) (k : IntKind) (x y : Int) (K : AV → Option α) : Option α :=
  match op with
  | .add => K (wr k (x + y))
  | .sub => K (wr k (x - y))
  | .mul => K (wr k (x * y))
  | .and | .or | .xor | .andNot => K (.i k (bitsOf op k x y))
  | .eql => K (.b (decide (x = y)))
  | .neq => K (.b (!decide (x = y)))
  | .lss => K (.b (decide (x < y)))
  | .leq => K (.b (decide (x ≤ y)))
  | .gtr => K (.b (decide (y < x)))
  | .geq => K (.b (decide (y ≤ x)))
  | _ => none

def u8Bin (op : BinOp) (x y : UInt8) (K : AV → Option α) : Option α :=
  match op with
  | .add => K (.u (x + y))
  | .sub => K (.u (x - y))
  | .mul => K (.u (x * y))
  | .and => K (.u (x &&& y))
  | .or => K (.u (x ||| y))
  | .xor => K (.u (x ^^^ y))
  | .andNot => K (.u (x &&& ~~~y))
  | .eql => K (.b (decide (x = y)))
  | .neq => K (.b (!decide (x = y)))
  | .lss => K (.b (decide (x.toNat < y.toNat)))
  | .leq => K (.b (decide (x.toNat ≤ y.toNat)))
  | .gtr => K (.b (decide (y.toNat < x.toNat)))
  | .geq => K (.b (decide (y.toNat ≤ x.toNat)))
  | _ => none

/-- The sum of two lengths is an int. -/
def fits (n : Nat) : Bool := decide (n ≤ 9223372036854775807)

def strBin (op : BinOp) (x y : List UInt8) (K : AV → Option α) : Option α :=
  match op with
  | .eql => K (.b (decide (x = y)))
  | .neq => K (.b (!decide (x = y)))
  | .lss => K (.b (Op.bytesLess x y))
  | .leq => K (.b (Op.bytesLess x y || decide (x = y)))
  | .gtr => K (.b (!(Op.bytesLess x y || decide (x = y))))
  | .geq => K (.b (!Op.bytesLess x y))
  | _ => none

/-- '==' of two scalars of one kind. -/
def eqCell (x y : AV) (K : Bool → Option α) : Option α :=
  match x, y with
  | .i k a, .i k' b => cond (decide (k = k')) (K (decide (a = b))) none
  | .u a, .u b => K (decide (a = b))
  | .s a, .s b => K (decide (a = b))
  | .b a, .b b => K (a == b)
  | .kb a, .kb b => K (a == b)
  | .kb a, .b b => K (a == b)
  | .b a, .kb b => K (a == b)
  | _, _ => none

/-- a value of one cell, of a type that '==' compares by its value -/
def flatTy (P : Program) (t : TypeId) (x : AV) : Bool :=
  match P.underlying t, x with
  | some (.int _), .i _ _ => true
  | some (.int _), .u _ => true
  | some .string, .s _ => true
  | some .bool, .b _ => true
  | some .bool, .kb _ => true
  | _, _ => false

/-- '==' of two structs, field by field. -/
def eqFS (P : Program) : Nat → List Field → List AV → List AV → (Bool → Option α) → Option α
  | _, [], [], [], K => K true
  | i, [f], [x], [y], K => cond (f.name != "_" && Nat.beq f.offset i && flatTy P f.type x) (eqCell x y K) none
  | i, f :: fs, x :: xs, y :: ys, K => cond (f.name != "_" && Nat.beq f.offset i && flatTy P f.type x)
      (eqCell x y fun r => eqFS P (i + 1) fs xs ys fun q => K (r && q)) none
  | _, _, _, _, _ => none

/-- '==' of two structs that hold structs of scalars. -/
def eqFS2 (P : Program) : Nat → List Field → List AV → List AV → (Bool → Option α) → Option α
  | _, [], xs, ys, K => match xs, ys with
    | [], [] => K true
    | _, _ => none
  | i, f :: fs, xs, ys, K => match P.underlying f.type with
    | some (.struct gs) => cond (f.name != "_" && Nat.beq f.offset i && !(P.stoodInHeld f.type))
        (eqFS P 0 gs.toList (xs.take (P.cellsOf f.type)) (ys.take (P.cellsOf f.type)) fun r => eqFS2 P (i + P.cellsOf f.type) fs (xs.drop (P.cellsOf f.type)) (ys.drop (P.cellsOf f.type)) fun q => K (r && q)) none
    | _ => match xs, ys with
      | x :: xs, y :: ys => cond (f.name != "_" && Nat.beq f.offset i && flatTy P f.type x)
          (eqCell x y fun r => eqFS2 P (i + 1) fs xs ys fun q => K (r && q)) none
      | _, _ => none

def eqAgg (P : Program) (t : TypeId) (xs ys : List AV) (K : Bool → Option α) : Option α :=
  cond (!(P.eqGuardType P.depth t) && !(P.stoodInHeld t)) (match P.underlying t with
    | some (.struct fs) => cond (Nat.beq fs.size xs.length) (eqFS P 0 fs.toList xs ys K) (eqFS2 P 0 fs.toList xs ys K)
    | some (.array 2 e) => match xs, ys with
      | [x1, x2], [y1, y2] => cond (Nat.beq (P.cellsOf e) 1 && flatTy P e x1 && flatTy P e x2) (eqCell x1 y1 fun r => eqCell x2 y2 fun q => K (r && q)) none
      | _, _ => none
    | _ => none) none

open Classical in
/-- What both ways say. -/
noncomputable def agr (x y : Option α) : Option α := if x = y then x else none

theorem agr_self (x : Option α) : agr x x = x := if_pos rfl

theorem agr_some {x y : Option α} {r : α} (h : agr x y = some r) : x = some r ∧ y = some r := by
  unfold agr at h
  split at h
  · next he => exact ⟨h, by rw [← he]; exact h⟩
  · cases h

def isNilSl : Value → Bool
  | .slice none 0 0 => true
  | _ => false

def isSlTy (P : Program) (t : TypeId) : Bool :=
  match P.underlying t with
  | some (.slice _) => true
  | _ => false

/-- What a reference is that is held against nil: is it nil? -/
def nilRef (P : Program) (t : TypeId) (x : AV) (v : Value) : Option Bool :=
  match P.underlying t, x, v with
  | some (.pointer _), .ptr _ _, .pointer none => some false
  | some (.pointer _), .mptr c _ _, .pointer none => some (!c)
  | some (.pointer _), .c (.pointer none), .pointer none => some true
  | some (.map _ _), .mp _, .map none => some false
  | some (.map _ _), .c (.map none), .map none => some true
  | _, _, _ => none

/-- known at once, or not -/
def nilB : AV → Bool → AV
  | .mptr _ _ _, q => .b q
  | _, q => .kb q

/-- Is a slice nil? One that holds something is none; of an empty one both may be so. -/
noncomputable def nilEq (e : Bool) (K : Bool → Option α) : Option α := cond e (agr (K true) (K false)) (K false)

def isBoolTy (P : Program) (t : TypeId) : Bool :=
  match P.underlying t with
  | some .bool => true
  | _ => false

def natOf (v : AV) (K : Int → Option α) : Option α :=
  match v with
  | .i _ n => K n
  | .u x => K (x.toNat : Int)
  | _ => none

/-- An index that is one of few numbers. -/
def pickIx (i : Int) (K : Nat → Option α) : Nat → Nat → Option α
  | 0, _ => none
  | n + 1, k => cond (decide (i = (k : Int))) (K k) (pickIx i K n (k + 1))

/-- The binary operations that always go well. -/
def evBin (P : Program) (op : BinOp) (t : TypeId) (x y : AV) (K : AV → Option α) : Option α :=
  match x, y with
  | .i k a, .i k' b => cond (decide (k = k')) (intBin op k a b K) none
  | .u a, .u b => u8Bin op a b K
  | .s a, .s b => strBin op a b K
  | .agg xs, .agg ys => match op with
    | .eql => eqAgg P t xs ys fun r => K (.b r)
    | .neq => eqAgg P t xs ys fun r => K (.b (!r))
    | _ => none
  | x, y => cond (isBoolTy P t) (match op with
    | .eql => eqCell x y fun r => K (.b r)
    | .neq => eqCell x y fun r => K (.b (!r))
    | _ => none) none

def evUn (op : UnOp) (x : AV) (K : AV → Option α) : Option α :=
  match op, x with
  | .neg, .i k n => K (wr k (0 - n))
  | .not, .b x => K (.b (!x))
  | .not, .kb x => K (.kb (!x))
  | _, _ => none

/-- Reading a type as data. -/
def tyOf (P : Program) : Nat → TypeId → Option Ty
  | 0, _ => none
  | d + 1, t => match P.underlying t with
    | some (.int .u8) => some .u8
    | some (.int k) => some (.int k)
    | some .bool => some .bool
    | some .string => some .str
    | some (.slice e) => (tyOf P d e).map .sl
    | some (.array n e) => (tyOf P d e).map fun a => a.rep n
    | some (.struct fs) => fs.toList.foldr (fun f r => match tyOf P d f.type, r with
        | some a, some b => some (.pair a b)
        | _, _ => none) (some .unit)
    | _ => none

def tyD (P : Program) (t : TypeId) : Option Ty := tyOf P 12 t

def elemTy (P : Program) (t : TypeId) : Option (TypeId × Ty) :=
  match P.underlying t with
  | some (.slice e) => (tyD P e).map fun y => (e, y)
  | _ => none

def isAggB (P : Program) (t : TypeId) : Bool :=
  match P.underlying t with
  | some (.struct _) | some (.array _ _) => true
  | _ => false

/-- the size of an element of the program's type is that of our code of it -/
def szOK (P : Program) (e : TypeId) (t : Ty) : Bool :=
  match P.info? e with
  | some i => Nat.beq i.size t.size
  | none => false

def fieldOff (P : Program) (t : TypeId) (f : Nat) : Option (Nat × TypeId) :=
  match P.underlying t with
  | some (.struct fs) => match fs[f]? with
    | some f => cond (Nat.beq (P.cellsOf f.type) 0) none (some (f.offset, f.type))
    | none => none
  | _ => none

end
end Go.Ev
