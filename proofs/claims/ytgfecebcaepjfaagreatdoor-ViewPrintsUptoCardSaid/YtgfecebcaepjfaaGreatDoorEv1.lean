/- The abstract evaluator: operations, shapes, code. -/
import Derived.Test.YtgfecebcaepjfaaGreatDoorEv0
import Derived.Orders
namespace Go.Ev

/-! References to some blocks, struck out. -/
def hasN (kl : List Nat) (b : Nat) : Bool := kl.any fun y => Nat.beq b y

mutual
def killV (kl : List Nat) : AV → AV
  | .ptr b o => cond (hasN kl b) .bad (.ptr b o)
  | .ep b t i f => cond (hasN kl b) .bad (.ep b t i f)
  | .wh b => cond (hasN kl b) .bad (.wh b)
  | .win b lo n => cond (hasN kl b) .bad (.win b lo n)
  | .mp b => cond (hasN kl b) .bad (.mp b)
  | .mptr c b o => cond (hasN kl b) .bad (.mptr c b o)
  | .fn f cs => .fn f (killL kl cs)
  | .agg cs => .agg (killL kl cs)
  | .tup cs => .tup (killL kl cs)
  | .gd _ _ _ => .bad
  | .ifc t x => .ifc t (killV kl x)
  | .pan x => .pan (killV kl x)
  | v => v
def killL (kl : List Nat) : List AV → List AV
  | [] => []
  | x :: r => killV kl x :: killL kl r
end

def killB (kl : List Nat) : Blk → Blk
  | .vars cs => .vars (killL kl cs)
  | x => x

/-- References to these blocks struck out everywhere. -/
def killsE (kl : List Nat) (E : Nat → AV) : Nat → AV :=
  match kl with
  | [] => E
  | _ :: _ => fun t => killV kl (E t)
def killsH (kl : List Nat) (H : Nat → Blk) : Nat → Blk :=
  match kl with
  | [] => H
  | _ :: _ => fun t => killB kl (H t)
def St.kill (S : St) (kl : List Nat) : St := ⟨killsE kl S.E, killsH kl S.H, S.nx, S.kl ++ kl⟩

def noGd : AV → AV
  | .gd _ _ _ => .bad
  | v => v

/-- A guarded value, taken under its own guard. -/
def unG (j : Nat) (w : Bool) : AV → AV
  | .gd j' w' x => cond (Nat.beq j' j && w' == w) (noGd x) (.gd j' w' x)
  | v => v

def unGx (c : Operand) (w : Bool) (v : AV) : AV :=
  match c with
  | .tmp j => unG j w v
  | _ => v

section
variable {α : Type}

/-- What lies in a slice, as data of a type. -/
def items (H : Nat → Blk) (t : Ty) (v : AV) (K : List t.den → Option α) : Option α :=
  match v with
  | .sl t' l => if h : t' = t then K (h ▸ l) else none
  | .c (.slice none 0 0) => K []
  | .wh b => match H b with
    | .data t' l => if h : t' = t then K (h ▸ l) else none
    | _ => none
  | .win b lo n => match H b with
    | .data t' l => if h : t' = t then K (h ▸ ((l.drop lo).take n)) else none
    | _ => none
  | _ => none

def lenOf (H : Nat → Blk) (v : AV) (K : Nat → Option α) : Option α :=
  match v with
  | .sl _ l => K l.length
  | .c (.slice none 0 0) => K 0
  | .wh b => match H b with
    | .data _ l => K l.length
    | _ => none
  | .win _ _ n => K n
  | _ => none

/-- Put cells over others. -/
def splice (cs : List AV) (o : Nat) (vs : List AV) : List AV := cs.take o ++ vs ++ cs.drop (o + vs.length)

def cellsAt (cs : List AV) (o n : Nat) (isAgg : Bool) (K : AV → Option α) : Option α :=
  cond isAgg (cond (Nat.ble (o + n) cs.length) (K (.agg ((cs.drop o).take n))) none)
    (match cs.drop o with
      | x :: _ => K x
      | [] => none)

def loadAV (P : Program) (t : TypeId) (a : AV) (H : Nat → Blk) (K : AV → Option α) : Option α :=
  match P.underlying t with
  | none => none
  | some _ => match a with
    | .ptr b o => match H b with
      | .vars cs => cellsAt cs o (P.cellsOf t) (isAggB P t) K
      | _ => none
    | .ep b t' ix f => match H b with
      | .data t'' l => cond (decide (t'' = t')) (cellsAt (encc t'' (l.getD ix t''.dflt)) f (P.cellsOf t) (isAggB P t) K) none
      | _ => none
    | .fp t' l ix f => cellsAt (encc t' (l.getD ix t'.dflt)) f (P.cellsOf t) (isAggB P t) K
    | _ => none

def storeAV (P : Program) (t : TypeId) (a v : AV) (S : St) (K : St → Option α) : Option α :=
  cellsK v fun vs => cond ((P.info? t).isSome && Nat.beq vs.length (P.cellsOf t) && vs.all okCell)
    (match a with
      | .ptr b o => match S.H b with
        | .vars cs => cond (Nat.ble (o + vs.length) cs.length) (K ⟨S.E, updH S.H b (.vars (splice cs o vs)), S.nx, S.kl⟩) none
        | _ => none
      | .ep b t' ix f => match S.H b with
        | .data t'' l => cond (decide (t'' = t'))
            (cond (Nat.ble (f + vs.length) t''.size)
              (dec t'' (splice (encc t'' (l.getD ix t''.dflt)) f vs) fun x r => match r with
                | [] => K ⟨S.E, updH S.H b (.data t'' (l.set ix x)), S.nx, S.kl⟩
                | _ => none) none) none
        | _ => none
      | _ => none) none

/-- Parts of a struct laid over its zero cells. -/
def fillAV (P : Program) (fs : List Field) : List AV → List (Nat × AV) → (List AV → Option α) → Option α
  | cs, [], K => K cs
  | cs, (i, v) :: r, K => match fs[i]? with
    | some f => cellsK v fun vs => cond (Nat.beq vs.length (P.cellsOf f.type) && Nat.ble (f.offset + vs.length) cs.length) (fillAV P fs (splice cs f.offset vs) r K) none
    | none => none

/-- Elements laid over an array's zero cells. -/
def fillAr (sz : Nat) : List AV → List (Nat × AV) → (List AV → Option α) → Option α
  | cs, [], K => K cs
  | cs, (i, v) :: r, K => cellsK v fun vs => cond (Nat.beq vs.length sz && Nat.ble (i * sz + vs.length) cs.length) (fillAr sz (splice cs (i * sz) vs) r K) none

def zeroCells (P : Program) (t : TypeId) (K : List AV → Option α) : Option α :=
  match P.info? t with
  | some i => match i.zero with
    | some z => cellsK (absV z) K
    | none => none
  | none => none

/-- The elements of a slice literal. -/
def elemsAV (t : Ty) : Nat → List (Nat × AV) → (List t.den → Option α) → Option α
  | _, [], K => K []
  | k, (i, v) :: r, K => cond (Nat.beq i k) (cellsK v fun vs => dec t vs fun x rest => match rest with
      | [] => elemsAV t (k + 1) r fun l => K (x :: l)
      | _ => none) none

def boundOf (v : Option AV) (d : Int) (K : Int → Option α) : Option α :=
  match v with
  | none => K d
  | some v => natOf v K

def least (x y : AV) (K : AV → Option α) : Option α :=
  match x, y with
  | .i k a, .i k' b => cond (decide (k = k')) (K (.i k (cond (decide (b < a)) b a))) none
  | _, _ => none

def most (x y : AV) (K : AV → Option α) : Option α :=
  match x, y with
  | .i k a, .i k' b => cond (decide (k = k')) (K (.i k (cond (decide (a < b)) b a))) none
  | _, _ => none

/-- no interface's type -/
def concreteB (P : Program) (t : TypeId) : Bool :=
  match P.underlying t with
  | none => false
  | some (.interface _) => false
  | _ => true

/-- The operations that only yield a value: 'side' must hold. -/
noncomputable def evVal (P : Program) (op : Op) (ρ : Operand → AV) (H : Nat → Blk) (K : Bool → AV → Option α) : Option α :=
  match op with
  | .move x | .assign x => K true (ρ x)
  | .pick c a b => match ρ c with
    | .kb true => K true (unGx c true (ρ a))
    | .kb false => K true (unGx c false (ρ b))
    | .b cv => match b, a with
      | .const (.bool false), a => match unGx c true (ρ a) with
        | .b x => K true (.b (cv && x))
        | .kb x => K true (.b (cv && x))
        | _ => none
      | b, .const (.bool true) => match unGx c false (ρ b) with
        | .b x => K true (.b (cv || x))
        | .kb x => K true (.b (cv || x))
        | _ => none
      | _, _ => none
    | _ => none
  | .build t parts => match P.underlying t with
    | some (.struct fs) => cond (fs.toList.all fun f => (P.info? f.type).isSome)
        (zeroCells P t fun z => fillAV P fs.toList z (parts.toList.map fun (i, x) => (i, ρ x)) fun cs => K true (.agg cs)) none
    | some (.array _ e) => cond ((P.info? e).isSome) (zeroCells P t fun z => fillAr (P.cellsOf e) z (parts.toList.map fun (i, x) => (i, ρ x)) fun cs => K true (.agg cs)) none
    | _ => none
  | .load t a => loadAV P t (ρ a) H (K true)
  | .nilCheck x => match ρ x with
    | .ptr b o => K true (.ptr b o)
    | .mptr c b o => K c (.ptr b o)
    | .ep b t i f => K true (.ep b t i f)
    | .fp t l i f => K true (.fp t l i f)
    | .fn f cs => K true (.fn f cs)
    | _ => none
  | .binOp op t x y _ => evBinS P op t (ρ x) (ρ y) K
  | .unOp op _ x => evUn op (ρ x) (K true)
  | .makeInterface t x => cond (concreteB P t) (K true (.ifc t (noGd (ρ x)))) none
  | .convert src dst x => match P.underlying src, P.underlying dst, ρ x with
    | some (.int _), some (.int .u8), .u n => K true (.u n)
    | some (.int _), some (.int .u8), .i _ n => K true (.u (u8of n))
    | some (.int _), some (.int .i8), .u _ => none
    | some (.int _), some (.int k), .u n => K true (.i k (n.toNat : Int))
    | some (.int _), some (.int k), .i _ n => K true (wr k n)
    | some .string, some .string, .s l => K true (.s l)
    | some (.int _), some .string, .i _ n => K true (.s (Utf8.encode n).data.toList)
    | some (.slice e), some .string, v => match P.underlying e with
      | some (.int .u8) => items H .u8 v fun l => K true (.s l)
      | _ => none
    | _, _, _ => none
  | .makeFunc (.func f) first caps => cond first.isEmpty (K true (.fn f (caps.toList.map ρ))) none
  | .slice t x lo hi mx => match mx with
    | some _ => none
    | none => match P.underlying t with
      | some .string => match ρ x with
        | .s l => boundOf (lo.map ρ) 0 fun a => boundOf (hi.map ρ) (l.length : Int) fun z =>
            K (decide (0 ≤ a) && decide (a ≤ z) && decide (z ≤ (l.length : Int))) (.s ((l.drop a.toNat).take (z.toNat - a.toNat)))
        | _ => none
      | some (.slice e) => match ρ x with
        | .sl t l => cond (szOK P e t) (boundOf (lo.map ρ) 0 fun a => boundOf (hi.map ρ) (l.length : Int) fun z =>
            K (decide (0 ≤ a) && decide (a ≤ z) && decide (z ≤ (l.length : Int))) (.sl t ((l.drop a.toNat).take (z.toNat - a.toNat)))) none
        | .wh b => match H b with
          | .data t l => cond (szOK P e t) (boundOf (lo.map ρ) 0 fun a => boundOf (hi.map ρ) (l.length : Int) fun z =>
              K (decide (0 ≤ a) && decide (a ≤ z) && decide (z ≤ (l.length : Int))) (.win b a.toNat (z.toNat - a.toNat))) none
          | _ => none
        | .win b lo' n => match H b with
          | .data t _ => cond (szOK P e t) (boundOf (lo.map ρ) 0 fun a => boundOf (hi.map ρ) (n : Int) fun z =>
              K (decide (0 ≤ a) && decide (a ≤ z) && decide (z ≤ (n : Int))) (.win b (lo' + a.toNat) (z.toNat - a.toNat))) none
          | _ => none
        | _ => none
      | _ => none
  | .fieldAddr t x f => match fieldOff P t f with
    | some (o, _) => match ρ x with
      | .ptr b o' => K true (.ptr b (o' + o))
      | .ep b t i f => K true (.ep b t i (f + o))
      | .fp t l i f => K true (.fp t l i (f + o))
      | _ => none
    | none => none
  | .field t x f => match fieldOff P t f with
    | some (o, ft) => match ρ x with
      | .agg cs => match P.underlying ft with
        | some _ => cellsAt cs o (P.cellsOf ft) (isAggB P ft) (K true)
        | none => none
      | _ => none
    | none => none
  | .indexAddr t x ix => match P.underlying t with
    | some (.slice e) => natOf (ρ ix) fun i => match ρ x with
      | .sl t l => cond (szOK P e t) (K (decide (0 ≤ i) && decide (i < (l.length : Int))) (.fp t l i.toNat 0)) none
      | .wh b => match H b with
        | .data t l => cond (szOK P e t) (K (decide (0 ≤ i) && decide (i < (l.length : Int))) (.ep b t i.toNat 0)) none
        | _ => none
      | .win b lo n => match H b with
        | .data t _ => cond (szOK P e t) (K (decide (0 ≤ i) && decide (i < (n : Int))) (.ep b t (lo + i.toNat) 0)) none
        | _ => none
      | _ => none
    | some (.array n e) => natOf (ρ ix) fun i => cond ((P.info? e).isSome) (match ρ x with
      | .ptr b o => pickIx i (fun k => K true (.ptr b (o + k * P.cellsOf e))) n 0
      | .ep b t j f => pickIx i (fun k => K true (.ep b t j (f + k * P.cellsOf e))) n 0
      | .fp t l j f => pickIx i (fun k => K true (.fp t l j (f + k * P.cellsOf e))) n 0
      | _ => none) none
    | _ => none
  | .index t x ix => match P.underlying t, ρ x with
    | some .string, .s l => natOf (ρ ix) fun i => K (decide (0 ≤ i) && decide (i < (l.length : Int))) (.u (l.getD i.toNat 0))
    | some (.array n e), .agg cs => match P.underlying e with
      | some _ => natOf (ρ ix) fun i => pickIx i (fun k => cellsAt cs (k * P.cellsOf e) (P.cellsOf e) (isAggB P e) (K true)) n 0
      | none => none
    | _, _ => none
  | .extract x n => match ρ x with
    | .tup vs => match vs[n]? with
      | some v => K true v
      | none => none
    | _ => none
  | .call { callee := .builtin .len, args, argTypes } => match args.toList, argTypes.toList with
    | [x], [t] => match P.underlying t with
      | some .string => match ρ x with
        | .s l => K true (.i .i64 (l.length : Int))
        | _ => none
      | some (.slice _) => lenOf H (ρ x) fun n => K true (.i .i64 (n : Int))
      | _ => none
    | _, _ => none
  | .call { callee := .builtin .min, args, argTypes := _ } => match args.toList with
    | [x, y] => least (ρ x) (ρ y) (K true)
    | _ => none
  | .call { callee := .builtin .max, args, argTypes := _ } => match args.toList with
    | [x, y] => most (ρ x) (ρ y) (K true)
    | _ => none
  | _ => none
where
  evBinS (P : Program) (op : BinOp) (t : TypeId) (x y : AV) (K : Bool → AV → Option α) : Option α :=
    match op, x, y with
    | .quo, .i k a, .i k' b => cond (decide (k = k')) (K (decide (b ≠ 0)) (wr k (a.tdiv b))) none
    | .rem, .i k a, .i k' b => cond (decide (k = k')) (K (decide (b ≠ 0)) (.i k (a.tmod b))) none
    | .quo, .u a, .u b => K (decide (b ≠ 0)) (.u (a / b))
    | .rem, .u a, .u b => K (decide (b ≠ 0)) (.u (a % b))
    | .add, .s a, .s b => K (fits (a.length + b.length)) (.s (a ++ b))
    | .shl, .i k a, .i _ b => K (decide (0 ≤ b)) (wr k (a * 2 ^ (min b.toNat k.bits)))
    | .shr, .i k a, .i _ b => K (decide (0 ≤ b)) (.i k (a.fdiv (2 ^ (min b.toNat k.bits))))
    | .shl, .u a, .i _ b => K (decide (0 ≤ b)) (.u (UInt8.ofNat (a.toNat * 2 ^ (min b.toNat 8))))
    | .eql, .sl _ l, .c v => cond (isNilSl v && isSlTy P t) (nilEq l.isEmpty fun q => K true (.kb q)) none
    | .neq, .sl _ l, .c v => cond (isNilSl v && isSlTy P t) (nilEq l.isEmpty fun q => K true (.kb (!q))) none
    | .eql, x, .c v => match nilRef P t x v with
      | some q => K true (nilB x q)
      | none => evBin P .eql t x (.c v) (K true)
    | .neq, x, .c v => match nilRef P t x v with
      | some q => K true (nilB x (!q))
      | none => evBin P .neq t x (.c v) (K true)
    | op, x, y => evBin P op t x y (K true)

/-! Slices of their own that go into plain data. -/
mutual
def whs : AV → List Nat
  | .wh b => [b]
  | .agg cs => whsL cs
  | _ => []
def whsL : List AV → List Nat
  | [] => []
  | x :: r => whs x ++ whsL r
end

def dropBlks : List Nat → (Nat → Blk) → (Nat → Blk)
  | [], H => H
  | b :: r, H => updH (dropBlks r H) b .dead

mutual
def sealV (H : Nat → Blk) (ks : List Nat) : AV → AV
  | .wh b => cond (hasN ks b) (match H b with
    | .data t l => .sl t l
    | _ => .bad) (.wh b)
  | .agg cs => .agg (sealL H ks cs)
  | v => killV ks v
def sealL (H : Nat → Blk) (ks : List Nat) : List AV → List AV
  | [] => []
  | x :: r => sealV H ks x :: sealL H ks r
end

/-- These blocks are let go: what they held is plain data. -/
def St.seal (S : St) (ks : List Nat) : St := ⟨killsE ks S.E, dropBlks ks (killsH ks S.H), S.nx, S.kl ++ ks⟩

def sealing (ρ : Operand → AV) (S : St) (ks : List Nat) (f : (Operand → AV) → St → Option α) : Option α :=
  match ks with
  | [] => f ρ S
  | _ :: _ => f (fun x => sealV S.H ks (ρ x)) (S.seal ks)

/-- What calls mean: given by whoever evaluates. -/
abbrev Calling := FuncId → List AV → St → {α : Type} → (AV → St → Option α) → Option α

def bytesOK (n bytes : Nat) : Bool := decide (n * bytes ≤ 140737488355328)

/-- the zero value of an element has its size -/
def zeroSz (P : Program) (e : TypeId) (y : Ty) : Bool :=
  match P.info? e with
  | some i => match i.zero with
    | some z => Nat.beq z.cells.size y.size
    | none => false
  | none => false

/-- a type of maps: its keys' and elements' types -/
def mapTy (P : Program) (t : TypeId) : Option (TypeId × TypeId × Ty × Ty) :=
  match P.underlying t with
  | some (.map k e) => match P.underlying k, tyD P e with
    | some .string, some y => some (k, e, .str, y)
    | some (.int .u8), _ => none
    | some (.int i), some y => some (k, e, .int i, y)
    | _, _ => none
  | _ => none

/-- are the elements structs or arrays? -/
def zeroAg (P : Program) (e : TypeId) : Bool :=
  match P.info? e with
  | some i => match i.zero with
    | some (.agg _) => true
    | _ => false
  | none => false

def keyK (t : Ty) (v : AV) (K : t.den → Option α) : Option α :=
  match t, v with
  | .str, .s x => K x
  | .int k, .i k' n => cond (decide (k' = k)) (K n) none
  | _, _ => none

/-- an element of a map as a value -/
def valK (ag : Bool) (cs : List AV) (K : AV → Option α) : Option α :=
  cond ag (K (.agg cs)) (match cs with
    | [x] => K x
    | _ => none)

/-- a value's cells, where it is a struct or array just if the type says so -/
def agK (ag : Bool) (v : AV) (K : List AV → Option α) : Option α :=
  cond ag (match v with
    | .agg cs => K cs
    | _ => none) (match v with
    | .agg _ => none
    | v => cellsK v K)

/-- the map that a value is -/
def mapAt (kt vt : Ty) (ag : Bool) (H : Nat → Blk) (v : AV) (K : Nat → List (kt.den × vt.den) → Option α) : Option α :=
  match v with
  | .mp b => match H b with
    | .mapd kt' vt' ag' l => if h : kt' = kt then (if h2 : vt' = vt then cond (ag' == ag) (K b (castM h h2 l)) none else none) else none
    | _ => none
  | _ => none

/-- The operations on maps. -/
noncomputable def evMap (P : Program) (op : Op) (ρ : Operand → AV) (S : St) (K : AV → St → Option α) : Option α :=
  match op with
  | .makeMap t none => match mapTy P t with
    | some (_, e, kt, vt) => K (.mp S.nx) ⟨S.E, updH S.H S.nx (.mapd kt vt (zeroAg P e) []), S.nx + 1, S.kl⟩
    | none => none
  | .lookup t m k two => match mapTy P t with
    | some (_, e, kt, vt) => mapAt kt vt (zeroAg P e) S.H (ρ m) fun _ l => keyK kt (ρ k) fun key => zeroCells P e fun z => dec vt z fun d r => match r with
      | [] => valK (zeroAg P e) (encc vt ((mapGet kt l key).getD d)) fun v => K (cond two (.tup [v, .b (mapGet kt l key).isSome]) v) S
      | _ => none
    | none => none
  | .mapUpdate t m k x => match mapTy P t with
    | some (_, e, kt, vt) => sealing ρ S (whs (ρ x)) fun ρ S => mapAt kt vt (zeroAg P e) S.H (ρ m) fun b l => keyK kt (ρ k) fun key => agK (zeroAg P e) (ρ x) fun cs => dec vt cs fun d r => match r with
      | [] => K .bad ⟨S.E, updH S.H b (.mapd kt vt (zeroAg P e) (mapSet kt l key d)), S.nx, S.kl⟩
      | _ => none
    | none => none
  | .call { callee := .builtin .delete, args, argTypes } => match args.toList, argTypes.toList with
    | [m, k], t :: _ => match mapTy P t with
      | some (_, e, kt, vt) => mapAt kt vt (zeroAg P e) S.H (ρ m) fun b l => keyK kt (ρ k) fun key => K (.tup []) ⟨S.E, updH S.H b (.mapd kt vt (zeroAg P e) (mapDel kt l key)), S.nx, S.kl⟩
      | none => none
    | _, _ => none
  | .call { callee := .builtin .len, args, argTypes } => match args.toList, argTypes.toList with
    | [m], [t] => match mapTy P t with
      | some (_, e, kt, vt) => mapAt kt vt (zeroAg P e) S.H (ρ m) fun _ l => K (.i .i64 (List.length l : Int)) S
      | none => none
    | _, _ => none
  | _ => none

/-- a part of plain data, up to a place beyond which nothing is to be had -/
def slice3 (P : Program) (e : TypeId) (ρ : Operand → AV) (x lo : Option Operand) (hi mx : Operand) (K : AV → Option α) : Option α :=
  match x.map ρ with
  | some (.sl y l) => cond (szOK P e y) (boundOf (lo.map ρ) 0 fun a => natOf (ρ hi) fun z => natOf (ρ mx) fun m =>
      need (decide (0 ≤ a) && decide (a ≤ z) && decide (z ≤ m) && decide (m ≤ (l.length : Int))) (K (.sl y ((l.drop a.toNat).take (z.toNat - a.toNat))))) none
  | _ => none

/-- one's own slice, up to a place beyond which nothing is to be had -/
def slice3w (P : Program) (e : TypeId) (ρ : Operand → AV) (b : Nat) (hi mx : Operand) (S : St) (K : AV → St → Option α) : Option α :=
  match S.H b with
  | .data y l => cond (szOK P e y) (natOf (ρ hi) fun z => natOf (ρ mx) fun m =>
      need (decide (0 ≤ z) && decide (z ≤ m) && decide (m ≤ (l.length : Int))) (K (.wh b) ⟨(S.kill [b]).E, updH (S.kill [b]).H b (.data y (l.take z.toNat)), S.nx, S.kl ++ [b]⟩)) none
  | _ => none

/-- The operations that make or write memory, or call. -/
noncomputable def evEff (P : Program) (C : Calling) (op : Op) (ρ : Operand → AV) (S : St) (K : AV → St → Option α) : Option α :=
  match op with
  | .alloc t => zeroCells P t fun z => K (.ptr S.nx 0) ⟨S.E, updH S.H S.nx (.vars z), S.nx + 1, S.kl⟩
  | .box _ x => cellsK (ρ x) fun vs => K (.ptr S.nx 0) ⟨S.E, updH S.H S.nx (.vars vs), S.nx + 1, S.kl⟩
  | .buildSlice t len parts => match elemTy P t with
    | some (e, y) => cond (Nat.beq len parts.size && szOK P e y && Nat.ble (len * y.size) 16777216)
        (sealing ρ S (whsL (parts.toList.map fun (_, x) => ρ x)) fun ρ S => zeroCells P e fun _ => elemsAV y 0 (parts.toList.map fun (i, x) => (i, ρ x)) fun l => K (.wh S.nx) ⟨S.E, updH S.H S.nx (.data y l), S.nx + 1, S.kl⟩) none
    | none => none
  | .makeSlice t n c => match elemTy P t with
    | some (e, y) => cond (szOK P e y && Nat.ble 1 (P.bytesOf e)) (natOf (ρ n) fun n => natOf (ρ c) fun c => zeroCells P e fun z => dec y z fun d r => match r with
        | [] => need (decide (0 ≤ n) && decide (n ≤ c) && bytesOK c.toNat (P.bytesOf e)) (K (.wh S.nx) ⟨S.E, updH S.H S.nx (.data y (List.replicate n.toNat d)), S.nx + 1, S.kl⟩)
        | _ => none) none
    | none => none
  | .store t a x => match ρ a with
    | .ep _ _ _ _ => sealing ρ S (whs (ρ x)) fun ρ S => storeAV P t (ρ a) (ρ x) S (K .bad)
    | _ => storeAV P t (ρ a) (ρ x) S (K .bad)
  | .convert src dst x => match P.underlying src, P.underlying dst, ρ x with
    | some .string, some (.slice e), .s l => match P.underlying e with
      | some (.int .u8) => K (.wh S.nx) ⟨S.E, updH S.H S.nx (.data .u8 l), S.nx + 1, S.kl⟩
      | _ => none
    | some (.slice _), some (.slice e), .wh b => match P.underlying e with
      | some (.int .u8) => match S.H b with
        | .data .u8 l => need (src == dst && !l.isEmpty) (K (.sl .u8 l) (S.seal [b]))
        | _ => none
      | _ => none
    | _, _, _ => none
  | .slice t x lo (some hi) (some mx) => match P.underlying t, ρ x with
    | some (.slice e), .wh b => match lo, hi with
      | none, .tmp _ => slice3w P e ρ b hi mx S K
      | _, _ => sealing ρ S [b] fun ρ S => slice3 P e ρ (some x) lo hi mx fun v => K v S
    | some (.slice e), .sl _ _ => slice3 P e ρ (some x) lo hi mx fun v => K v S
    | _, _ => none
  | .range t x => match P.underlying t, ρ x with
    | some .string, .s l => K (.ptr S.nx 0) ⟨S.E, updH S.H S.nx (.iter l 0), S.nx + 1, S.kl⟩
    | _, _ => none
  | .next x true => match ρ x with
    | .ptr b 0 => match S.H b with
      | .iter l pos => cond (decide (pos < l.length))
          (K (.tup [.kb true, .i .i64 (pos : Int), .i .i32 ((Utf8.decode ⟨l.toArray⟩ pos).1 : Int)]) ⟨S.E, updH S.H b (.iter l (pos + (Utf8.decode ⟨l.toArray⟩ pos).2)), S.nx, S.kl⟩)
          (K (.tup [.kb false]) S)
      | _ => none
    | _ => none
  | .call { callee := .builtin .append, args, argTypes } => match args.toList, argTypes.toList with
    | [s, x], t :: ts => match elemTy P t with
      | some (e, y) => cond (szOK P e y && noInt P ts && Nat.ble 1 (P.bytesOf e) && zeroSz P e y) (itemsOrStr S.H y (ρ x) fun xs => match ρ s with
          | .c (.slice none 0 0) => need (bytesOK xs.length (P.bytesOf e)) (K (.wh S.nx) ⟨S.E, updH S.H S.nx (.data y xs), S.nx + 1, S.kl⟩)
          | .wh b => match S.H b with
            | .data t' l => if h : t' = y then need (bytesOK (l.length + xs.length) (P.bytesOf e))
                (K (.wh b) ⟨(S.kill [b]).E, updH (S.kill [b]).H b (.data y (h ▸ l ++ xs)), S.nx, S.kl ++ [b]⟩) else none
            | _ => none
          | .win b lo n => match S.H b with
            | .data t' l => if h : t' = y then need (bytesOK (lo + n + xs.length) (P.bytesOf e) && Nat.beq lo 0)
                (K (.wh b) ⟨(S.kill [b]).E, updH (S.kill [b]).H b (.data y (h ▸ l.take n ++ xs)), S.nx, S.kl ++ [b]⟩) else none
            | _ => none
          | _ => none) none
      | none => none
    | _, _ => none
  | .call { callee := .builtin .clear, args, argTypes } => match args.toList, argTypes.toList with
    | [x], [t] => match elemTy P t with
      | some (e, y) => cond (szOK P e y && zeroSz P e y) (zeroCells P e fun z => dec y z fun d r => match r with
        | [] => match ρ x with
          | .win b lo n => match S.H b with
            | .data t' l => if h : t' = y then K (.tup []) ⟨S.E, updH S.H b (.data y ((h ▸ l : List y.den).take lo ++ List.replicate n d ++ (h ▸ l : List y.den).drop (lo + n))), S.nx, S.kl⟩ else none
            | _ => none
          | _ => none
        | _ => none) none
      | none => none
    | _, _ => none
  | .makeMap t n => evMap P (.makeMap t n) ρ S K
  | .lookup t m k two => evMap P (.lookup t m k two) ρ S K
  | .mapUpdate t m k x => evMap P (.mapUpdate t m k x) ρ S K
  | .call { callee := .builtin .delete, args, argTypes } => evMap P (.call { callee := .builtin .delete, args, argTypes }) ρ S K
  | .call { callee := .builtin .len, args, argTypes } => evMap P (.call { callee := .builtin .len, args, argTypes }) ρ S K
  | .call { callee := .value f, args, .. } => match ρ f with
    | .fn g caps => C g (args.toList.map ρ ++ caps) S K
    | _ => none
  | .panic x => match ρ x with
    | .ifc t y => K (.pan (.ifc t y)) S
    | _ => none
  | _ => none
where
  noInt (P : Program) : List TypeId → Bool
    | [t] => match P.underlying t with
      | some (.slice _) => true
      | some .string => true
      | _ => false
    | _ => false
  itemsOrStr (H : Nat → Blk) (t : Ty) (v : AV) (K : List t.den → Option α) : Option α :=
    match t, v with
    | .u8, .s l => K l
    | t, v => items H t v K

/-- the length of anything but a map -/
def lenVal (P : Program) : List TypeId → Bool
  | [t] => match P.underlying t with
    | some (.map _ _) => false
    | _ => true
  | _ => true

/-- Is it one of the operations that only yield a value? -/
def isVal (P : Program) : Op → Bool
  | .move _ | .assign _ | .pick .. | .build .. | .load .. | .nilCheck _ | .binOp .. | .unOp .. | .makeFunc .. | .fieldAddr .. | .field .. | .indexAddr .. | .index .. | .extract .. | .makeInterface .. => true
  | .slice _ _ _ _ mx => mx.isNone
  | .convert _ dst _ => match P.underlying dst with
    | some (.slice _) => false
    | _ => true
  | .call { callee := .builtin .len, argTypes, .. } => lenVal P argTypes.toList
  | .call { callee := .builtin .min, .. } => true
  | .call { callee := .builtin .max, .. } => true
  | _ => false

def slotOf (ops : Array Oper) (g : Nat) : Option Nat := (ops[g]?).bind (·.dst)

/-- What is looked at before a value operation is let through. -/
abbrev Check := Op → (Operand → AV) → (Nat → AV) → Bool

/-- May an operation panic with a value of the program's own? -/
def mayPan : Op → Bool
  | .call { callee := .value _, .. } => true
  | .panic _ => true
  | _ => false

/-- Where an operation goes on: behind it, or with a panic. -/
def outK (m : Bool) (d : Option Nat) (K : St → Option α) (Kp : AV → St → Option α) (v : AV) (S' : St) : Option α :=
  match m, v with
  | true, .pan x => Kp x S'
  | _, v => K (S'.put d (noGd v))

/-- One operation, run outright. -/
noncomputable def evRun (P : Program) (C : Calling) (chk : Check) (o : Oper) (ρ : Operand → AV) (S : St) (K : St → Option α) (Kp : AV → St → Option α) : Option α :=
  cond (isVal P o.op) (cond (chk o.op ρ S.E) (evVal P o.op ρ S.H fun side v => need side (K (S.put o.dst (noGd v)))) none) (evEff P C o.op ρ S (outK (mayPan o.op) o.dst K Kp))

/-- Under a guard: an operation that only yields a value. -/
noncomputable def gVal (P : Program) (chk : Check) (j : Nat) (w c : Bool) (o : Oper) (S : St) (K : St → Option α) : Option α :=
  cond (chk o.op (fun x => unG j w (opd S.E x)) S.E)
    (evVal P o.op (fun x => unG j w (opd S.E x)) S.H fun side v => need (side || cond w (!c) c) (K (S.put o.dst (.gd j w (noGd v))))) none

/-- Under a guard: any other. -/
noncomputable def gEff (P : Program) (C : Calling) (chk : Check) (j : Nat) (w c : Bool) (o : Oper) (S : St) (K : St → Option α) (Kp : AV → St → Option α) : Option α :=
  cond (cond w c (!c))
    (evRun P C chk o (fun x => unG j w (opd S.E x)) ⟨upd S.E j (.kb w), S.H, S.nx, S.kl⟩ K Kp)
    (K (St.put ⟨upd S.E j (.kb (!w)), S.H, S.nx, S.kl⟩ o.dst (.tup [])))

/-- known not to be so -/
def ruled (v : AV) (w : Bool) : Bool :=
  match v with
  | .kb x => !(x == w)
  | _ => false

/-- What must be so where a slot has a truth. -/
def lvOf (v : AV) (w : Bool) : Option Bool :=
  match v with
  | .b x => some (cond w x (!x))
  | .gd _ _ (.b x) => some (cond w x (!x))
  | _ => none

def lvAnd : Option Bool → Option Bool → Option Bool
  | none, y => y
  | some x, none => some x
  | some x, some y => some (x && y)

def lvIn (E : Nat → AV) (v : AV) (w : Bool) : Option Bool :=
  match v with
  | .gd j w' _ => lvAnd (lvOf v w) (lvOf (E j) w')
  | _ => lvOf v w

def gC (w c : Bool) : Option Bool → Bool
  | none => c
  | some l => cond w (c && l) (c || !l)

/-- Under a guard that stands under a guard itself. -/
noncomputable def evGd (P : Program) (C : Calling) (chk : Check) (done : List Nat) (o : Oper) (S : St) (K : St → Option α) (Kp : AV → St → Option α) (j : Nat) (w : Bool) (j' : Nat) (w' c : Bool) : Option α :=
  cond (hasN done j) (cond (isVal P o.op) (cond (ruled (S.E j') w') (K (S.put o.dst (.tup []))) (gVal P chk j w (gC w c (lvIn S.E (S.E j') w')) o S K)) (match S.E j' with
    | .b c' => cond (cond w' c' (!c'))
        (gEff P C chk j w c o ⟨upd (upd S.E j' (.kb w')) j (.b c), S.H, S.nx, S.kl⟩ K Kp)
        (K (St.put ⟨upd S.E j' (.kb (!w')), S.H, S.nx, S.kl⟩ o.dst (.tup [])))
    | .kb x => cond (x == w') (gEff P C chk j w c o ⟨upd S.E j (.b c), S.H, S.nx, S.kl⟩ K Kp) (K (S.put o.dst (.tup [])))
    | _ => none)) none

/-- the blocks that an operation lets go for good before it runs: one's own slices that go into a slice of slices -/
def preSeal (P : Program) (op : Op) (ρ : Operand → AV) : List Nat :=
  match op with
  | .buildSlice t _ parts => match elemTy P t with
    | some (_, .sl _) => whsL (parts.toList.map fun (_, x) => ρ x)
    | _ => []
  | _ => []

/-- what was one's own is plain data from now on -/
def St.sealE (S : St) (ks : List Nat) : St := ⟨fun t => sealV S.H ks (S.E t), dropBlks ks (killsH ks S.H), S.nx, S.kl ++ ks⟩

/-- One operation of a region; 'done': the slots that the region has written. -/
noncomputable def evOp (P : Program) (C : Calling) (chk : Check) (ops : Array Oper) (done : List Nat) (o : Oper) (S : St) (K : St → Option α) (Kp : AV → St → Option α) : Option α :=
  match o.guard with
  | none => cond (isVal P o.op) (evRun P C chk o (opd S.E) S K Kp) (match preSeal P o.op (opd S.E) with
    | [] => evRun P C chk o (opd S.E) S K Kp
    | k :: ks => evRun P C chk o (opd (S.sealE (k :: ks)).E) (S.sealE (k :: ks)) K Kp)
  | some (g, w) => match slotOf ops g with
    | none => none
    | some j => match S.E j with
      | .kb x => cond (x == w) (evRun P C chk o (fun x => unG j w (opd S.E x)) S K Kp) (K (S.put o.dst (.tup [])))
      | .tup [] => K (S.put o.dst (.tup []))
      | .gd j' w' (.kb c) => cond (c == w) (evGd P C chk done o S K Kp j w j' w' c) (K (S.put o.dst (.tup [])))
      | .b c => cond (hasN done j) (cond (isVal P o.op) (gVal P chk j w c o S K) (gEff P C chk j w c o S K Kp)) none
      | .gd j' w' (.b c) => evGd P C chk done o S K Kp j w j' w' c
      | _ => none

/-- A slot that is there and that the region has not written yet. -/
def fresh (n : Nat) (done : List Nat) : Option Nat → Bool
  | none => true
  | some d => Nat.blt d n && !hasN done d

/-- An operation of a region, in its turn, and what is looked at before it. -/
structure Turn where
  k : Nat
  o : Oper
  /-- operations that may come up before it and may write any block -/
  wilds : List Nat
  /-- slots that hold the addresses which operations that may come up before it write -/
  avoid : List Nat

def isNilN : List Nat → Bool
  | [] => true
  | _ => false

def addrOK (E : Nat → AV) (free : Bool) (avoid : List Nat) : AV → Bool
  | .fp _ _ _ _ | .sl _ _ => avoid.all fun d => match E d with
    | .ptr _ _ => true
    | _ => false
  | .ptr b _ | .ep b _ _ _ | .wh b | .win b _ _ => free && avoid.all fun d => match E d with
    | .ptr b' _ => !Nat.beq b' b
    | _ => false
  | .i _ _ | .u _ | .s _ => true
  | _ => false

def isPtr : AV → Bool
  | .ptr _ _ => true
  | _ => false

def Turn.chk (s : Turn) : Check := fun op ρ E =>
  match op with
  | .load _ a => addrOK E (isNilN s.wilds || isPtr (ρ a)) s.avoid (ρ a)
  | .convert _ _ x => addrOK E (isNilN s.wilds) s.avoid (ρ x)
  | _ => true

/-- Cells that have been read ahead of operations that may come up before. -/
structure Wat where
  ix : List Nat
  b : Nat
  o : Nat
  n : Nat

def unGs : AV → AV
  | .gd _ _ x => x
  | v => v

/-- how many cells a load reads -/
def loadN (P : Program) (t : TypeId) : Nat := cond (Nat.beq (P.cellsOf t) 0) 1 (P.cellsOf t)

def Turn.watch (P : Program) (s : Turn) (E : Nat → AV) : List Wat :=
  cond (isNilN s.wilds) [] (match s.o.op with
    | .load t a => match unGs (opd E a) with
      | .ptr b o => [⟨s.wilds, b, o, loadN P t⟩]
      | _ => []
    | _ => [])

/-- the same, seen from outside -/
def sameCell (x y : AV) (K : Option α) : Option α :=
  match x, y with
  | .i k a, .i k' b => cond (decide (k = k')) (need (decide (a = b)) K) none
  | .u a, .u b => need (decide (a = b)) K
  | .s a, .s b => need (decide (a = b)) K
  | .b a, .b b => need (a == b) K
  | .kb a, .kb b => need (a == b) K
  | .kb a, .b b => need (a == b) K
  | .b a, .kb b => need (a == b) K
  | _, _ => none

def sameCells : List AV → List AV → Option α → Option α
  | [], [], K => K
  | x :: xs, y :: ys, K => sameCell x y (sameCells xs ys K)
  | _, _, _ => none

def keepW (H H' : Nat → Blk) (k : Nat) : List Wat → Option α → Option α
  | [], K => K
  | e :: r, K => cond (hasN e.ix k) (match H e.b, H' e.b with
      | .vars cs, .vars cs' => cond (Nat.ble (e.o + e.n) cs.length && Nat.ble (e.o + e.n) cs'.length)
          (sameCells ((cs.drop e.o).take e.n) ((cs'.drop e.o).take e.n) (keepW H H' k r K)) none
      | _, _ => none) (keepW H H' k r K)

/-- The turns of a region; where operations may come up in one order or another, each of them. -/
inductive PT where
  | nil
  | one (s : Turn) (r : PT)
  | two (a b : PT)

noncomputable def evTurns (P : Program) (C : Calling) (n : Nat) (ops : Array Oper) : PT → List Nat → List Wat → St → (St → Option α) → (AV → St → Option α) → Option α
  | .nil, _, _, S, K, _ => K S
  | .one s r, done, W, S, K, Kp => cond (fresh n done s.o.dst) (evOp P C s.chk ops done s.o S (fun S' =>
      keepW S.H S'.H s.k W (evTurns P C n ops r (s.o.dst.toList ++ done) (s.watch P S.E ++ W) S' K Kp)) Kp) none
  | .two a b, done, W, S, K, Kp => agr (evTurns P C n ops a done W S K Kp) (evTurns P C n ops b done W S K Kp)

/-- In the order that they stand in. -/
def turns : Nat → List Oper → PT
  | _, [] => .nil
  | k, o :: r => .one ⟨k, o, [], []⟩ (turns (k + 1) r)

end

/-! A region whose order is drawn: an order to take its operations in. -/
/-- an edge that binds in every order -/
def bnd (e : Edge) : Bool :=
  match e.ground with
  | .textOnly _ => false
  | .gcOnly _ => false
  | _ => true

def waits (o : Oper) (i : Nat) : Bool := o.after.toList.any fun e => bnd e && Nat.beq e.on i
def rdy (done : List Nat) (o : Oper) : Bool := o.after.toList.all fun e => !bnd e || hasN done e.on

/-- What an operation may do to what is there already. -/
inductive Kd where
  | val | new | st (d : Nat) | wild

def kindOf (P : Program) (M : FuncId → Bool) (ds : List Nat) (o : Oper) : Kd :=
  cond (isVal P o.op) .val (match o.op with
    | .alloc _ | .box .. | .buildSlice .. | .makeSlice .. | .range .. => .new
    | .convert src _ _ => match P.underlying src with
      | some .string => .new
      | _ => .wild
    | .store _ (.tmp d) _ => cond (hasN ds d) .wild (.st d)
    | .call { callee := .value (.func f), .. } => cond (M f) .new .wild
    | _ => .wild)

def isSelect : Op → Bool
  | .select .. => true
  | _ => false

/-- The first operation that only yields a value and may come up. -/
def pickV (P : Program) (may : Nat → Oper → Bool) (done : List Nat) : Nat → List Oper → Option (Nat × Oper)
  | _, [] => none
  | k, o :: r => cond (!hasN done k && isVal P o.op && rdy done o && may k o) (some (k, o)) (pickV P may done (k + 1) r)

/-- Is a slice loaded? -/
def slLoad (P : Program) (o : Oper) : Bool :=
  match o.op with
  | .load t _ => match P.underlying t with
    | some (.slice _) => true
    | _ => false
  | _ => false

def readies (done : List Nat) : Nat → List Oper → List Nat
  | _, [] => []
  | k, o :: r => cond (!hasN done k && rdy done o) (k :: readies done (k + 1) r) (readies done (k + 1) r)

/-- The operations that wait for number x, or for one that does. -/
def behind (x : Nat) : Nat → List Oper → List Nat → List Nat
  | _, [], acc => acc
  | k, o :: r, acc => behind x (k + 1) r (cond (o.after.toList.any fun e => bnd e && hasN (x :: acc) e.on) (k :: acc) acc)

/-- What the operations that do not wait for number x may write: 'none' if they may not come up before it. -/
def others (P : Program) (M : FuncId → Bool) (ops : Array Oper) (ds done : List Nat) (x : Nat) (ox : Oper) (bh : List Nat) : Nat → List Oper → Option (List Nat × List Nat)
  | _, [] => some ([], [])
  | k, o :: r => match others P M ops ds done x ox bh (k + 1) r with
    | none => none
    | some (wild, av) => cond (hasN done k || Nat.beq k x || hasN bh k) (some (wild, av))
      (cond (ox.apart ops o) (match kindOf P M ds o with
        | .val => some (wild, av)
        | .new => some (wild, av)
        | .st d => some (wild, d :: av)
        | .wild => some (k :: wild, av)) none)

/-- May an operation be taken ahead of all others? A slice that others may turn is loaded in its turn. -/
def mayPick (P : Program) (M : FuncId → Bool) (ops : Array Oper) (ds done : List Nat) (k : Nat) (o : Oper) : Bool :=
  !slLoad P o || (match others P M ops ds done k o (behind k 0 ops.toList []) 0 ops.toList with
    | some ([], _) => true
    | _ => false)

def planAlts (f : Nat → Option PT) : List Nat → Option PT
  | [] => none
  | [k] => f k
  | k :: r => match f k, planAlts f r with
    | some a, some b => some (.two a b)
    | _, _ => none

def plan (P : Program) (M : FuncId → Bool) (ops : Array Oper) (ds : List Nat) : Nat → List Nat → Option PT
  | 0, done => match readies done 0 ops.toList with
    | [] => some .nil
    | _ => none
  | n + 1, done => match pickV P (mayPick P M ops ds done) done 0 ops.toList with
    | some (k, o) => match others P M ops ds done k o (behind k 0 ops.toList []) 0 ops.toList, plan P M ops ds n (k :: done) with
      | some (wild, av), some r => some (.one ⟨k, o, wild, av⟩ r)
      | _, _ => none
    | none => planAlts (fun k => match ops[k]?, plan P M ops ds n (k :: done) with
      | some o, some r => some (.one ⟨k, o, [], []⟩ r)
      | _, _ => none) (readies done 0 ops.toList)

def dstsOf (ops : List Oper) : List Nat := ops.filterMap (·.dst)

def turnsOf (P : Program) (M : FuncId → Bool) (ops : Array Oper) (draw : Bool) : Option PT :=
  cond draw (cond (ops.toList.all fun o => !isSelect o.op) (plan P M ops (dstsOf ops.toList) ops.size []) none) (some (turns 0 ops.toList))

/-! Shapes of states. -/
inductive VSh where
  | i (k : IntKind) | u | b | s | sl (t : Ty) | ptr (j o : Nat) | own (j : Nat) | win (j : Nat) | mp (j : Nat) | mptr (j o : Nat) | fn (f : FuncId) (cs : VSh) | agg (cs : VSh) | tup (cs : VSh) | ifc (t : TypeId) (v : VSh) | may (a b : VSh)
  | nil | cons (a b : VSh) | nilp | bad | kb (x : Bool) | ki (k : IntKind) (n : Int) | ks (l : List UInt8)

@[reducible] def VSh.den : VSh → Type
  | .i _ => Int | .u => UInt8 | .b => Bool | .s => List UInt8 | .sl t => List t.den | .ptr _ _ => Unit | .own _ => Unit | .win _ => Nat × Nat | .mp _ => Unit | .mptr _ _ => Bool
  | .fn _ cs => cs.den | .agg cs => cs.den | .tup cs => cs.den | .ifc _ v => v.den | .may x y => x.den ⊕ y.den | .nil => Unit | .cons x y => x.den × y.den | .nilp => Unit | .bad => Unit | .kb _ => Unit | .ki _ _ => Unit | .ks _ => Unit

inductive BSh where
  | vars (cs : VSh) | data (t : Ty) | iter | mapd (kt vt : Ty) (ag : Bool)

@[reducible] def BSh.den : BSh → Type
  | .vars cs => cs.den | .data t => List t.den | .iter => List UInt8 × Nat | .mapd kt vt _ => List (kt.den × vt.den)

@[reducible] def slotsDen : List (Nat × VSh) → Type
  | [] => Unit
  | (_, v) :: r => v.den × slotsDen r
@[reducible] def blksDen : List (Nat × BSh) → Type
  | [] => Unit
  | (_, v) :: r => v.den × blksDen r

structure Shape where
  slots : List (Nat × VSh)
  blks : List (Nat × BSh)
  nx : Nat

@[reducible] def Shape.den (sh : Shape) : Type := slotsDen sh.slots × blksDen sh.blks

abbrev Outs := List (Ex × Shape)
@[reducible] def outsDen : Outs → Type
  | [] => Empty
  | [(_, s)] => s.den
  | (_, s) :: r => s.den ⊕ outsDen r

structure Bd where
  m : List (Nat × Option Nat)
  z : List Nat

def findB (m : List (Nat × Option Nat)) (j : Nat) : Option (Option Nat) :=
  match m with
  | [] => none
  | (j', b) :: r => cond (Nat.beq j' j) (some b) (findB r j)

def eqON : Option Nat → Option Nat → Bool
  | none, none => true
  | some a, some b => Nat.beq a b
  | _, _ => false

section
variable {α : Type}

def bindB (B : Bd) (j : Nat) (b : Option Nat) (K : Bd → Option α) : Option α :=
  match findB B.m j with
  | none => K ⟨(j, b) :: B.m, B.z⟩
  | some b' => cond (eqON b' b) (K B) none

def isNilPtr : Value → Bool
  | .pointer none => true
  | _ => false

def packSl (H : Nat → Blk) (t : Ty) (x : AV) (B : Bd) (K : List t.den → Bd → Option α) : Option α :=
  match x with
  | .wh b => items H t (.wh b) fun l => K l ⟨B.m, b :: B.z⟩
  | .win b lo n => items H t (.win b lo n) fun l => K l ⟨B.m, b :: B.z⟩
  | x => items H t x fun l => K l B

def packOwn (x : AV) (j : Nat) (B : Bd) (K : Bd → Option α) : Option α :=
  match x with
  | .wh b => bindB B j (some b) K
  | .c u => cond (isNilSl u) (bindB B j none K) none
  | _ => none

/-- a window, or a whole slice as a window -/
def packWin (H : Nat → Blk) (x : AV) (j : Nat) (B : Bd) (K : Nat × Nat → Bd → Option α) : Option α :=
  match x with
  | .win b lo n => bindB B j (some b) (K (lo, n))
  | .wh b => match H b with
    | .data _ l => bindB B j (some b) (K (0, List.length l))
    | _ => none
  | _ => none

/-- a pointer, or nil -/
def packMp (x : AV) (j o : Nat) (B : Bd) (K : Bool → Bd → Option α) : Option α :=
  match x with
  | .ptr b o' => cond (Nat.beq o' o) (bindB B j (some b) (K true)) none
  | .mptr c b o' => cond (Nat.beq o' o) (bindB B j (some b) (K c)) none
  | .c u => cond (isNilPtr u) (bindB B j none (K false)) none
  | _ => none

/-- Cells of a block that is not there. -/
def nilV : (v : VSh) → Bd → (v.den → Bd → Option α) → Option α
  | .i _, B, K => K (0 : Int) B
  | .u, B, K => K (0 : UInt8) B
  | .b, B, K => K false B
  | .s, B, K => K [] B
  | .sl _, B, K => K [] B
  | .ptr j _, B, K => bindB B j none (K ())
  | .own j, B, K => bindB B j none (K ())
  | .win j, B, K => bindB B j none (K (0, 0))
  | .mp j, B, K => bindB B j none (K ())
  | .mptr j _, B, K => bindB B j none (K false)
  | .fn _ c, B, K => nilV c B K
  | .agg c, B, K => nilV c B K
  | .tup c, B, K => nilV c B K
  | .ifc _ c, B, K => nilV c B K
  | .may c _, B, K => nilV c B fun p B => K (Sum.inl p) B
  | .nil, B, K => K () B
  | .cons v w, B, K => nilV v B fun p B => nilV w B fun q B => K (p, q) B
  | .nilp, B, K => K () B
  | .bad, B, K => K () B
  | .kb _, B, K => K () B
  | .ki _ _, B, K => K () B
  | .ks _, B, K => K () B

mutual
def packV (H : Nat → Blk) : (v : VSh) → AV → Bd → (v.den → Bd → Option α) → Option α
  | .i k, .i k' n, B, K => cond (decide (k' = k)) (K n B) none
  | .u, .u x, B, K => K x B
  | .b, .b x, B, K => K x B
  | .b, .kb x, B, K => K x B
  | .s, .s x, B, K => K x B
  | .sl t, x, B, K => packSl H t x B K
  | .ptr j o, .ptr b o', B, K => cond (Nat.beq o' o) (bindB B j (some b) (K ())) none
  | .own j, x, B, K => packOwn x j B (K ())
  | .win j, x, B, K => packWin H x j B K
  | .mp j, .mp b, B, K => bindB B j (some b) (K ())
  | .mptr j o, x, B, K => packMp x j o B K
  | .fn f cs, .fn f' l, B, K => cond (Nat.beq f' f) (packL H cs l B K) none
  | .agg cs, .agg l, B, K => packL H cs l B K
  | .tup cs, .tup l, B, K => packL H cs l B K
  | .nilp, .c u, B, K => cond (isNilPtr u) (K () B) none
  | .kb x, .kb y, B, K => cond (x == y) (K () B) none
  | .ki k n, .i k' n', B, K => cond (decide (k' = k) && decide (n' = n)) (K () B) none
  | .ks l, .s l', B, K => cond (decide (l' = l)) (K () B) none
  | .bad, _, B, K => K () B
  | .ifc t v, .ifc t' x, B, K => cond (Nat.beq t' t) (packV H v x B K) none
  | _, _, _, _ => none
def packL (H : Nat → Blk) : (v : VSh) → List AV → Bd → (v.den → Bd → Option α) → Option α
  | .nil, [], B, K => K () B
  | .cons v w, x :: r, B, K => packV H v x B fun p B => packL H w r B fun q B => K (p, q) B
  | _, _, _, _ => none
end

def packSlots (S : St) : (l : List (Nat × VSh)) → Bd → (slotsDen l → Bd → Option α) → Option α
  | [], B, K => K () B
  | (t, v) :: r, B, K => packV S.H v (S.E t) B fun p B => packSlots S r B fun q B => K (p, q) B

def packBlk (pin : Nat) (H : Nat → Blk) (j : Nat) : (sh : BSh) → Bd → (sh.den → Bd → Option α) → Option α
  | .vars cs, B, K => match findB B.m j with
    | some (some b) => cond (Nat.ble pin j || Nat.beq b j) (match H b with
      | .vars l => packL H cs l B K
      | _ => none) none
    | some none => cond (Nat.ble pin j) (nilV cs B K) none
    | none => none
  | .data t, B, K => match findB B.m j with
    | some (some b) => cond (Nat.ble pin j || Nat.beq b j) (match H b with
      | .data t' l => if h : t' = t then K (h ▸ l) B else none
      | _ => none) none
    | some none => cond (Nat.ble pin j) (K [] B) none
    | none => none
  | .iter, B, K => match findB B.m j with
    | some (some b) => cond (Nat.ble pin j || Nat.beq b j) (match H b with
      | .iter s pos => K (s, pos) B
      | _ => none) none
    | _ => none
  | .mapd kt vt ag, B, K => match findB B.m j with
    | some (some b) => cond (Nat.ble pin j || Nat.beq b j) (match H b with
      | .mapd kt' vt' ag' l => if h : kt' = kt then (if h2 : vt' = vt then cond (ag' == ag) (K (castM h h2 l) B) none else none) else none
      | _ => none) none
    | some none => cond (Nat.ble pin j) (K [] B) none
    | none => none

def packBlks (pin : Nat) (H : Nat → Blk) : (l : List (Nat × BSh)) → Bd → (blksDen l → Bd → Option α) → Option α
  | [], B, K => K () B
  | (j, sh) :: r, B, K => packBlk pin H j sh B fun p B => packBlks pin H r B fun q B => K (p, q) B

def nodupN : List Nat → Bool
  | [] => true
  | x :: r => !(r.any fun y => Nat.beq x y) && nodupN r

/-- The blocks that are bound are different ones, and none of them is also read as plain data. -/
def Bd.ok (B : Bd) : Bool :=
  let bs := B.m.filterMap (·.2)
  nodupN bs && bs.all fun b => !(B.z.any fun y => Nat.beq b y)

/-- The block of a number in a shape. -/
def kindIn (bl : List (Nat × BSh)) (j : Nat) : Option BSh :=
  match bl with
  | [] => none
  | (k, s) :: r => cond (Nat.beq k j) (some s) (kindIn r j)

/-- What a shape of values refers to is there in the shape of the blocks. -/
def refsOK (bl : List (Nat × BSh)) : VSh → Bool
  | .ptr j _ => (kindIn bl j).isSome
  | .mp j => (kindIn bl j).isSome
  | .mptr j _ => (kindIn bl j).isSome
  | .own j => match kindIn bl j with
    | some (.data _) => true
    | _ => false
  | .win j => match kindIn bl j with
    | some (.data _) => true
    | _ => false
  | .fn _ cs => refsOK bl cs
  | .agg cs => refsOK bl cs
  | .tup cs => refsOK bl cs
  | .ifc _ v => refsOK bl v
  | .may v w => refsOK bl v && refsOK bl w
  | .cons v w => refsOK bl v && refsOK bl w
  | _ => true

def bshOK (bl : List (Nat × BSh)) : BSh → Bool
  | .vars cs => refsOK bl cs
  | _ => true

def blksOK (nx : Nat) (bl0 bl : List (Nat × BSh)) : Bool := bl.all fun p => Nat.blt p.1 nx && bshOK bl0 p.2

def shapeOK (pin : Nat) (sh : Shape) : Bool := Nat.ble pin sh.nx && (sh.slots.all fun p => refsOK sh.blks p.2) && blksOK sh.nx sh.blks sh.blks

/-- blocks of the caller's, bound as they are -/
def preB (pin : Nat) : List (Nat × BSh) → List (Nat × Option Nat)
  | [] => []
  | (j, _) :: r => cond (Nat.blt j pin) ((j, some j) :: preB pin r) (preB pin r)

def pack (pin : Nat) (sh : Shape) (S : St) (K : sh.den → Option α) : Option α :=
  cond (shapeOK pin sh) (packSlots S sh.slots ⟨preB pin sh.blks, []⟩ fun p B => packBlks pin S.H sh.blks B fun q B => cond B.ok (K (p, q)) none) none

end

mutual
def unV : (v : VSh) → v.den → AV
  | .i k, n => .i k n | .u, x => .u x | .b, x => .b x | .s, x => .s x | .sl t, l => .sl t l | .ptr j o, _ => .ptr j o | .own j, _ => .wh j | .win j, p => .win j p.1 p.2 | .mp j, _ => .mp j | .mptr j o, c => .mptr c j o
  | .fn f cs, p => .fn f (unL cs p) | .agg cs, p => .agg (unL cs p) | .tup cs, p => .tup (unL cs p) | .nilp, _ => .c (.pointer none)
  | .kb x, _ => .kb x | .ki k n, _ => .i k n | .ks l, _ => .s l | .ifc t v, p => .ifc t (unV v p)
  | .may v w, p => match (p : v.den ⊕ w.den) with
    | .inl p => unV v p
    | .inr p => .pan (unV w p)
  | _, _ => .bad
def unL : (v : VSh) → v.den → List AV
  | .cons v w, p => unV v p.1 :: unL w p.2
  | _, _ => []
end

def unB : (v : BSh) → v.den → Blk
  | .vars cs, p => .vars (unL cs p) | .data t, l => .data t l | .iter, p => .iter p.1 p.2 | .mapd kt vt ag, l => .mapd kt vt ag l

def unSlots : (l : List (Nat × VSh)) → slotsDen l → (Nat → AV)
  | [], _ => fun _ => .bad
  | (t, v) :: r, p => upd (unSlots r p.2) t (unV v p.1)
def unBlks : (l : List (Nat × BSh)) → blksDen l → (Nat → Blk)
  | [], _ => fun _ => .dead
  | (j, v) :: r, p => updH (unBlks r p.2) j (unB v p.1)

def unpack (sh : Shape) (p : sh.den) : St := ⟨unSlots sh.slots p.1, unBlks sh.blks p.2, sh.nx, []⟩

section
variable {α : Type}

def eqEx : Ex → Ex → Bool
  | .normal, .normal => true
  | .ret, .ret => true
  | .pan, .pan => true
  | .exit a, .exit b => Nat.beq a b
  | _, _ => false

def packOuts (pin : Nat) (S : St) (ex : Ex) : (o : Outs) → (outsDen o → Option α) → Option α
  | [], _ => none
  | [(e, s)], K => cond (eqEx e ex) (pack pin s S K) none
  | (e, s) :: y :: r, K => cond (eqEx e ex) (pack pin s S fun p => K (.inl p)) (packOuts pin S ex (y :: r) fun q => K (.inr q))

def unOuts : (o : Outs) → outsDen o → (Ex → St → Option α) → Option α
  | [], _, _ => none
  | [(e, s)], p, K => K e (unpack s p)
  | (e, s) :: y :: r, p, K => match p with
    | .inl p => K e (unpack s p)
    | .inr q => unOuts (y :: r) q K

end

/-- What is told of a function's code: where ways meet again, and what its loops do. -/
inductive HT where
  | leaf
  | two (a b : HT)
  | one (a : HT)
  | join (o : Outs) (h : HT)
  | loop (sh : Shape) (o : Outs) (run : sh.den → Option (outsDen o)) (h : HT)

def HT.fst : HT → HT
  | .two a _ => a
  | .one a => a
  | .join _ h => h
  | _ => .leaf
def HT.snd : HT → HT
  | .two _ b => b
  | _ => .leaf

/-- Ways that meet again. -/
def joined (pin : Nat) {α : Type} (h : HT) (f : {β : Type} → HT → (Ex → St → Option β) → Option β) (K : Ex → St → Option α) : Option α :=
  match h with
  | .join o h => (f h fun ex S => packOuts pin S ex o some).bind fun r => unOuts o r K
  | h => f h K

def iter {σ τ : Type} (f : σ → Option (σ ⊕ τ)) : Nat → σ → Option τ
  | 0, _ => none
  | n + 1, p => match f p with
    | none => none
    | some (.inl q) => iter f n q
    | some (.inr r) => some r

/-- The code, evaluated. -/
noncomputable def ev (P : Program) (C : Calling) (M : FuncId → Bool) (pin n : Nat) : Code → HT → St → {α : Type} → (Ex → St → Option α) → Option α
  | .skip, _, S, _, K => K .normal S
  | .region _ ops draw, _, S, _, K => match turnsOf P M ops draw with
    | none => none
    | some ts => evTurns P C n ops ts [] [] S (fun S' => K .normal ⟨fun t => noGd (S'.E t), S'.H, S'.nx, S'.kl⟩) fun x S' => cond (Nat.ble 1 n) (K .pan ⟨upd (fun _ => .bad) 0 (noGd x), S'.H, S'.nx, S'.kl⟩) none
  | .seq a b, h, S, _, K => joined pin h.fst (fun h => ev P C M pin n a h S) fun ex S' => match ex with
    | .normal => joined pin h.snd (fun h => ev P C M pin n b h S') K
    | ex => K ex S'
  | .cond c a b, h, S, _, K => match opd S.E c with
    | .kb true => joined pin h.fst (fun h => ev P C M pin n a h S) K
    | .kb false => joined pin h.snd (fun h => ev P C M pin n b h S) K
    | .b x => cond x (joined pin h.fst (fun h => ev P C M pin n a h S) K) (joined pin h.snd (fun h => ev P C M pin n b h S) K)
    | _ => none
  | .block id c, h, S, _, K => joined pin h.fst (fun h => ev P C M pin n c h S) fun ex S' => match ex with
    | .exit id' => cond (Nat.beq id' id) (K .normal S') (K (.exit id') S')
    | ex => K ex S'
  | .loop _, .loop sh o run _, S, _, K => pack pin sh S fun p => (run p).bind fun r => unOuts o r K
  | .exit id, _, S, _, K => K (.exit id) S
  | .ret, _, S, _, K => K .ret S
  | .label _, _, S, _, K => K .normal S
  | .scope c, h, S, _, K => joined pin h.fst (fun h => ev P C M pin n c h S) K
  | _, _, _, _, _ => none

/-- One round of a loop, as its shape has it. -/
noncomputable def round (P : Program) (C : Calling) (M : FuncId → Bool) (pin n : Nat) (c : Code) (h : HT) (sh : Shape) (o : Outs) (p : sh.den) : Option (sh.den ⊕ outsDen o) :=
  joined pin h (fun h => ev P C M pin n c h (unpack sh p)) fun ex S => match ex with
    | .normal => pack pin sh S fun q => some (.inl q)
    | ex => packOuts pin S ex o fun r => some (.inr r)

/-- A function's results. -/
def resAV {α : Type} (P : Program) (S : St) : List ResultVar → (List AV → Option α) → Option α
  | [], K => K []
  | .tmp t :: r, K => resAV P S r fun vs => K (S.E t :: vs)
  | .cell a t :: r, K => loadAV P t (S.E a) S.H fun v => resAV P S r fun vs => K (v :: vs)

def argsE : Nat → List AV → Nat → AV
  | _, [] => fun _ => .bad
  | k, v :: r => upd (argsE (k + 1) r) k (noGd v)

/-- It comes back. -/
def noPan : AV → Bool
  | .pan _ => false
  | _ => true

/-- A function's body, run on arguments. -/
noncomputable def evFn {α : Type} (P : Program) (C : Calling) (M : FuncId → Bool) (pin : Nat) (fn : Func) (h : HT) (args : List AV) (S : St) (K : AV → St → Option α) : Option α :=
  match fn.body with
  | none => none
  | some c => cond (Nat.ble args.length fn.ntmps) (joined pin h (fun h => ev P C M pin fn.ntmps c h ⟨argsE 0 args, S.H, S.nx, []⟩) fun ex S' => match ex with
    | .exit _ => none
    | .pan => K (.pan (S'.E 0)) ⟨killsE S'.kl S.E, S'.H, S'.nx, S.kl ++ S'.kl⟩
    | _ => resAV P S' fn.results.toList fun vs => match vs with
      | [v] => cond (noPan v) (K v ⟨killsE S'.kl S.E, S'.H, S'.nx, S.kl ++ S'.kl⟩) none
      | vs => K (.tup vs) ⟨killsE S'.kl S.E, S'.H, S'.nx, S.kl ++ S'.kl⟩) none

/-- What is known of a function: its arguments' shapes with the blocks that they lead to (numbered from 0 on), its result's, and what it does. -/
structure Orc where
  args : VSh
  blks : List (Nat × BSh)
  out : VSh
  oblks : List (Nat × BSh)
  run : args.den × blksDen blks → Option (out.den × blksDen oblks)

/-! A shape's numbers of blocks, turned. -/
mutual
def renV (ρ : Nat → Nat) : AV → AV
  | .ptr b o => .ptr (ρ b) o
  | .ep b t i f => .ep (ρ b) t i f
  | .wh b => .wh (ρ b)
  | .mp b => .mp (ρ b)
  | .mptr c b o => .mptr c (ρ b) o
  | .win b lo n => .win (ρ b) lo n
  | .fn f cs => .fn f (renL ρ cs)
  | .agg cs => .agg (renL ρ cs)
  | .tup cs => .tup (renL ρ cs)
  | .gd _ _ _ => .bad
  | .ifc t x => .ifc t (renV ρ x)
  | .pan x => .pan (renV ρ x)
  | v => v
def renL (ρ : Nat → Nat) : List AV → List AV
  | [] => []
  | x :: r => renV ρ x :: renL ρ r
end
def renB (ρ : Nat → Nat) : Blk → Blk
  | .vars cs => .vars (renL ρ cs)
  | x => x

mutual
def hasSl : VSh → Bool
  | .sl _ => true
  | .fn _ c => hasSl c
  | .agg c => hasSl c
  | .tup c => hasSl c
  | .ifc _ v => hasSl v
  | .may v w => hasSl v || hasSl w
  | .cons x y => hasSl x || hasSl y
  | _ => false
end
def slTy : Ty → Bool
  | .sl _ => true
  | .pair x y => slTy x || slTy y
  | _ => false
def hasSlB : List (Nat × BSh) → Bool
  | [] => false
  | (_, .vars c) :: r => hasSl c || hasSlB r
  | (_, .data t) :: r => slTy t || hasSlB r
  | (_, .mapd k t _) :: r => slTy k || slTy t || hasSlB r
  | _ :: r => hasSlB r

/-- Which blocks of a shape hold data. -/
def dataIds : List (Nat × BSh) → List Nat
  | [] => []
  | (j, .data _) :: r => j :: dataIds r
  | _ :: r => dataIds r

/-- The number that a block of the callee has at the caller. -/
def renOf (B : Bd) (n nx : Nat) (j : Nat) : Nat :=
  cond (Nat.ble n j) (nx + j) (match findB B.m j with
    | some (some b) => b
    | _ => nx + j)

def putBlks (ρ : Nat → Nat) : (l : List (Nat × BSh)) → blksDen l → (Nat → Blk) → (Nat → Blk)
  | [], _, H => H
  | (j, v) :: r, p, H => updH (putBlks ρ r p.2 H) (ρ j) (renB ρ (unB v p.1))

/-- a result, or a panic -/
def unVK {α : Type} : (v : VSh) → v.den → (AV → Option α) → Option α
  | .may v w, p, K => match (p : v.den ⊕ w.den) with
    | .inl p => K (unV v p)
    | .inr p => K (.pan (unV w p))
  | v, p, K => K (unV v p)

def Orc.call {α : Type} (o : Orc) (args : List AV) (S : St) (K : AV → St → Option α) : Option α :=
  packL S.H o.args args ⟨[], []⟩ fun p B => packBlks 0 S.H o.blks B fun q B => cond B.ok
    ((o.run (p, q)).bind fun r =>
      let ρ := renOf B o.blks.length S.nx
      let gone := cond (hasSl o.out || hasSlB o.oblks) B.z []
      let kl := gone ++ (dataIds o.blks).map ρ
      unVK o.out r.1 fun v => K (renV ρ v) ⟨killsE kl S.E, putBlks ρ o.oblks r.2 (dropBlks kl (killsH kl S.H)), S.nx + (o.blks.length + o.oblks.length), S.kl ++ kl⟩) none

def BSh.tag : BSh → Nat
  | .vars _ => 1
  | .mapd _ _ _ => 2
  | _ => 0
def tagO : Option BSh → Nat
  | some s => s.tag
  | none => 0
def notIter : BSh → Bool
  | .iter => false
  | _ => true

/-- The shapes hang together. -/
def Orc.fits (o : Orc) : Bool :=
  nodupN (o.oblks.map (·.1)) && ((List.range o.blks.length).all fun j => (kindIn o.blks j).isSome) && refsOK o.blks o.args && refsOK o.oblks o.out &&
  (o.blks.all fun p => Nat.blt p.1 o.blks.length && bshOK o.blks p.2 && notIter p.2 && (Nat.beq p.2.tag 0 || Nat.beq (tagO (kindIn o.oblks p.1)) p.2.tag)) &&
  (o.oblks.all fun p => Nat.blt p.1 (o.blks.length + o.oblks.length) && bshOK o.oblks p.2 && notIter p.2)

/-- Do the functions among the arguments fit? -/
def fitsFn : VSh → List AV → Bool
  | .cons (.fn f _) r, .fn f' _ :: xs => Nat.beq f f' && fitsFn r xs
  | .cons _ r, _ :: xs => fitsFn r xs
  | _, _ => true

/-- Functions of which it is known that they leave all that is there as it is. -/
def mild (X : FuncId → Option Bool) (Y : FuncId → Option (List AV → Option AV)) (f : FuncId) : Bool :=
  match X f with
  | some b => b
  | none => match Y f with
    | some _ => true
    | none => false

/-- What a function of the library does to slices of their own: what must be so, the result, the state. -/
abbrev Deed := List AV → St → Option (Bool × AV × St)

/-- Calls: by what is known, by what the model itself answers, by a deed, or entered in place. -/
noncomputable def callX (P : Program) (X : FuncId → List AV → Option Orc) (B : FuncId → Option Bool) (Y : FuncId → Option (List AV → Option AV)) (Z : FuncId → Option Deed) (I : FuncId → Bool) : Nat → Calling
  | 0 => fun _ _ _ _ _ => none
  | d + 1 => fun f args S _ K => match X f args with
    | some o => o.call args S K
    | none => match Y f with
      | some g => match g args with
        | some v => cond (noPan v) (K v S) none
        | none => none
      | none => match Z f with
        | some z => match z args S with
          | some (side, v, S') => need side (cond (noPan v) (K v S') none)
          | none => none
        | none => match I f, P.funcs[f]? with
          | true, some fn => evFn P (callX P X B Y Z I d) (mild B Y) 0 fn .leaf args S K
          | _, _ => none

/-- A result, or what a call panics with. -/
def packR {α : Type} (H : Nat → Blk) : (v : VSh) → AV → Bd → (v.den → Bd → Option α) → Option α
  | .may _ v, .pan x, B, K => packV H v x B fun q B => K (Sum.inr q) B
  | .may v _, x, B, K => packV H v x B fun p B => K (Sum.inl p) B
  | _, .pan _, _, _ => none
  | v, x, B, K => packV H v x B K

/-- A function, run from the shapes of its arguments to that of its result. -/
noncomputable def evTop (P : Program) (C : Calling) (M : FuncId → Bool) (fn : Func) (h : HT) (o : Orc) (p : o.args.den × blksDen o.blks) : Option (o.out.den × blksDen o.oblks) :=
  evFn P C M o.blks.length fn h (unL o.args p.1) ⟨fun _ => .bad, unBlks o.blks p.2, o.blks.length, []⟩ fun v S =>
    packR S.H o.out v ⟨((List.range o.blks.length).filter fun j => (kindIn o.oblks j).isSome).map fun j => (j, some j), []⟩ fun x B => packBlks o.blks.length S.H o.oblks B fun y B => cond B.ok (some (x, y)) none

end Go.Ev
