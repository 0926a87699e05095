/- Texts that the last one leans on, 1. -/
import Derived.Below
import Derived.Orders
import Derived.Calls
import Derived.Tactics
import Derived.Laws.NewBlocks
import Derived.MapKept
import Derived.Laws.Cells
import Derived.Laws.Slices
import Derived.Laws.StructEq
import Derived.Laws.Strings2
import Derived.Laws.Concat
namespace Go.Ev
theorem zE {α : Type _} {β : Type _} {a : α} {f : α → Option β} : Option.bind (some a) f = f a := rfl
theorem zI {α : Sort _} {a b : α} : cond true a b = a := rfl
theorem zK {α : Sort _} {a b : α} : cond false a b = b := rfl
theorem zm {p : Prop} [inst : Decidable p] (h : p) : decide p = true := decide_eq_true h
theorem yv {p : Prop} [inst : Decidable p] (h : ¬p) : decide p = false := decide_eq_false h
theorem xX {p : Prop} [inst : Decidable p] : (decide p = true) = p := decide_eq_true_eq
theorem yF {n : Nat} : Int.toNat (n : Int) = n := rfl
theorem yR {a b : Bool} : ((a && b) = true) = (a = true ∧ b = true) := Bool.and_eq_true a b
theorem yW {a : Bool} : (a && a) = a := Bool.and_self a
theorem y5 {α : Type _} {a b : α} : (some a = some b) = (a = b) := Option.some.injEq a b
theorem zd {h : Decidable True} : decide True = true := decide_true h
theorem xe {α : Type _} {a b : List α} : (a ++ b).length = a.length + b.length := List.length_append
theorem yM : (!true) = false := rfl
theorem xf : (!false) = true := rfl
theorem xG {α : Type _} {i : Nat} {l : List α} : (l.take i).length = min i l.length := List.length_take
theorem sG {α : Type _} {i : Nat} {l : List α} : (l.drop i).length = l.length - i := List.length_drop
theorem lSg {α : Type _} {a : α} : [a].length = 1 := rfl
theorem xA {h : Decidable False} : decide False = false := decide_false h
theorem wQ {α : Type _} {l : List α} {i : Nat} {a : α} : l.getD i a = l[i]?.getD a := List.getD_eq_getElem?_getD
theorem uf {m n : Nat} (k : Nat) (h : m ≤ n) : m * k ≤ n * k := Nat.mul_le_mul_right k h
theorem xi {n m : Nat} (h : Nat.beq n m = true) : n = m := Nat.eq_of_beq_eq_true h
theorem lAs {α : Type _} (a b c : List α) : a ++ b ++ c = a ++ (b ++ c) := List.append_assoc a b c
end Go.Ev
namespace Go.Ev
inductive Ty where
 | int (k:IntKind) | u8 | bool | str | sl (t:Ty) | unit | pair (a b:Ty)
 | ln (t:Ty)
 | rg (t:Ty)
 | pt (t:Ty)
 | mp (k v:Ty) (ag:Bool)
 | mx (u:Ty)
 deriving DecidableEq
@[reducible] def Ty.den:Ty->Type
 | .int _=>Int | .u8=>UInt8 | .bool=>Bool | .str=>List UInt8 | .sl t=>List t.den | .unit=>Unit | .pair a b=>a.den×b.den | .ln t=>t.den | .rg t=>t.den
 | .pt t=>Option t.den | .mp k v _=>List (k.den×v.den) | .mx u=>Bool×u.den
def Ty.dflt:(t:Ty)->t.den
 | .int _=>(0:Int) | .u8=>(0:UInt8) | .bool=>false | .str=>([]:List UInt8) | .sl t=>([]:List t.den) | .unit=>() | .pair a b=>(a.dflt,b.dflt) | .ln t=>t.dflt | .rg t=>t.dflt
 | .pt t=>(none:Option t.den) | .mp k v _=>([]:List (k.den×v.den)) | .mx u=>(true,u.dflt)
def Ty.size:Ty->Nat
 | .unit=>0 | .pair a b=>a.size+b.size | .ln t=>t.size | .rg t=>t.size | .mx u=>u.size | _=>1
def Ty.inn:Ty->Ty
 | .sl t=>.sl (.ln t.inn) | .pair a b=>.pair a.inn b.inn | .ln t=>t.inn | .rg t=>t.inn | .pt t=>.pt (.ln t.inn) | .mp k v ag=>.mp k (.ln v.inn) ag | t=>t
theorem Ty.den_inn:∀ t:Ty,t.inn.den=t.den
 | .int _=>rfl | .u8=>rfl | .bool=>rfl | .str=>rfl | .unit=>rfl | .mx _=>rfl
 | .pt t=>congrArg Option t.den_inn
 | .mp k v _=>congrArg (λx=>List (k.den×x)) v.den_inn
 | .sl t=>congrArg List t.den_inn
 | .pair a b=>by
  show (a.inn.den×b.inn.den)=(a.den×b.den);rw [a.den_inn,b.den_inn]
 | .ln t=>t.den_inn
 | .rg t=>t.den_inn
def Ty.rgm:Ty->Ty
 | .sl t=>.sl (.rg t.rgm) | .pair a b=>.pair a.rgm b.rgm | t=>t
theorem Ty.den_rgm:∀ t:Ty,t.rgm.den=t.den
 | .int _=>rfl | .u8=>rfl | .bool=>rfl | .str=>rfl | .unit=>rfl | .pt _=>rfl | .mp ..=>rfl | .mx _=>rfl
 | .sl t=>congrArg List t.den_rgm
 | .pair a b=>by
  show (a.rgm.den×b.rgm.den)=(a.den×b.den);rw [a.den_rgm,b.den_rgm]
 | .ln _=>rfl
 | .rg _=>rfl
def xn:Ty->Bool
 | .rg _=>false
 | _=>true
def Ty.rep (t:Ty):Nat->Ty
 | 0=>.unit
 | n+1=>.pair t (t.rep n)
inductive AV where
 | i (k:IntKind) (n:Int)
 | u (x:UInt8)
 | b (x:Bool)
 | kb (x:Bool)
 | s (x:List UInt8)
 | c (v:Value)
 | sl (t:Ty) (l:List t.den)
 | fp (t:Ty) (l:List t.den) (ix f:Nat)
 | ptr (b o:Nat)
 | ep (b:Nat) (t:Ty) (ix f:Nat)
 | wh (b:Nat)
 | win (b lo n:Nat)
 | mp (b:Nat)
 | mptr (c:Bool) (b o:Nat)
 | fn (f:FuncId) (cs:List AV)
 | agg (cs:List AV)
 | tup (cs:List AV)
 | gd (j:Nat) (want:Bool) (x:AV)
 | ifc (t:TypeId) (x:AV)
 | pan (x:AV)
 | lit (x:AV) (u:Value)
 | fz (t:Ty) (x:t.den)
 | bad
instance:Inhabited AV:=⟨.bad⟩
inductive Blk where
 | dead
 | vars (cs:List AV)
 | data (t:Ty) (l:List t.den)
 | iter (s:List UInt8) (pos:Nat)
 | mapd (kt vt:Ty) (ag:Bool) (l:List (kt.den×vt.den))
def Blk.tag:Blk->Nat
 | .vars _=>1
 | _=>0
def yw:(t:Ty)->t.den->t.den->Bool
 | .str,a,b=>decide (a=b)
 | .int _,a,b=>decide (a=b)
 | _,_,_=>false
def zO (t:Ty) {β:Type}:List (t.den×β)->t.den->Option β
 | [],_=>none
 | e::r,k=>cond (yw t e.1 k) (some e.2) (zO t r k)
def yA (t:Ty) {β:Type}:List (t.den×β)->t.den->β->List (t.den×β)
 | [],k,x=>[(k,x)]
 | e::r,k,x=>cond (yw t e.1 k) ((k,x)::r) (e::yA t r k x)
def yk (t:Ty) {β:Type}:List (t.den×β)->t.den->List (t.den×β)
 | [],_=>[]
 | e::r,k=>cond (yw t e.1 k) r (e::yk t r k)
def castM {k1 v1 k2 v2:Ty} (h1:k1=k2) (h2:v1=v2) (l:List (k1.den×v1.den)):List (k2.den×v2.den):=h1 ▸ h2 ▸ l
structure St where
 E:Nat->AV
 H:Nat->Blk
 nx:Nat
 kl:List Nat
inductive Ex where
 | normal | exit (id:Nat) | ret | pan
 deriving DecidableEq
def upd (E:Nat->AV) (d:Nat) (v:AV):Nat->AV:=λt=>cond (Nat.beq t d) v (E t)
def zp (H:Nat->Blk) (d:Nat) (v:Blk):Nat->Blk:=λt=>cond (Nat.beq t d) v (H t)
def St.put (S:St) (d:Option Nat) (v:AV):St :=
 match d with
 | some d=>⟨upd S.E d v,S.H,S.nx,S.kl⟩
 | none=>S
def wv:Value->AV
 | .int .u8 n=>cond (decide (0<=n)&&decide (n<256)) (.u (UInt8.ofNat n.toNat)) .bad
 | .int k n=>.i k n
 | .bool x=>.kb x
 | .string s=>.s s.data.toList
 | .agg _=>.bad
 | .tuple _=>.bad
 | v=>.c v
def absV:Value->AV
 | .agg cs=>.agg (cs.toList.map wv)
 | v=>wv v
def unlit:AV->AV
 | .lit (.gd _ _ _) _=>.bad
 | .lit x _=>x
 | v=>v
def opd (E:Nat->AV):Operand->AV
 | .tmp t=>unlit (E t)
 | .const v=>absV v
 | .global _=>.bad
 | .func f=>.fn f []
def clT:Ty->Bool
 | .sl t=>clT t
 | .pair a b=>clT a&&clT b
 | .ln _=>false
 | .rg _=>false
 | .pt _=>false
 | .mp _ _ _=>false
 | .mx _=>false
 | _=>true
def w8:(t:Ty)->t.den->List AV
 | .int k,n=>[.i k n] | .u8,x=>[.u x] | .bool,x=>[.b x] | .str,x=>[.s x] | .sl t,l=>[.sl (.ln t.inn) (cast (congrArg List t.den_inn.symm) l:List t.inn.den)]
 | .unit,_=>[] | .pair a b,p=>w8 a p.1++w8 b p.2 | .ln t,x=>w8 t x | .rg t,x=>w8 t x
 | .pt t,x=>[.fz (.pt t) x] | .mp k v ag,x=>[.fz (.mp k v ag) x] | .mx u,p=>w8 u p.2
def x5:(t:Ty)->t.den->List AV
 | .int k,n=>[.i k n] | .u8,x=>[.u x] | .bool,x=>[.b x] | .str,x=>[.s x] | .sl t,l=>[.sl t l]
 | .unit,_=>[] | .pair a b,p=>x5 a p.1++x5 b p.2 | .ln t,x=>x5 t x | .rg t,x=>x5 t x
 | .pt t,x=>[.fz (.pt t) x] | .mp k v ag,x=>[.fz (.mp k v ag) x]
 | .mx u,p=>w8 u p.2
def wl:Value->Bool
 | .pointer none=>true
 | _=>false
def w9 {α:Type}:(t:Ty)->List AV->(t.den->List AV->Option α)->Option α
 | .int k,.i k' n::r,K=>cond (decide (k'=k)) (K n r) none
 | .u8,.u x::r,K=>K x r
 | .bool,.b x::r,K=>K x r
 | .bool,.kb x::r,K=>K x r
 | .str,.s x::r,K=>K x r
 | .sl t,.sl t' l::r,K=>if h:t'=.ln t.inn then K (cast (congrArg List t.den_inn) (h ▸ l:List (Ty.ln t.inn).den):List t.den) r else if h:t'=t then K (h ▸ l) r else none
 | .sl _,.c (.slice none 0 0)::r,K=>K [] r
 | .unit,r,K=>K () r
 | .pair a b,r,K=>w9 a r λx r=>w9 b r λy r=>K (x,y) r
 | _,_,_=>none
def tH {α:Type}:(t:Ty)->List AV->(t.den->List AV->Option α)->Option α
 | .int k,.i k' n::r,K=>cond (decide (k'=k)) (K n r) none
 | .u8,.u x::r,K=>K x r
 | .bool,.b x::r,K=>K x r
 | .bool,.kb x::r,K=>K x r
 | .str,.s x::r,K=>K x r
 | .sl t,.sl t' l::r,K=>if h:t'=t then K (h ▸ l) r else none
 | .sl _,.c (.slice none 0 0)::r,K=>K [] r
 | .unit,r,K=>K () r
 | .pair a b,r,K=>tH a r λx r=>tH b r λy r=>K (x,y) r
 | .ln t,r,K=>tH t r K
 | .rg t,r,K=>tH t r K
 | .pt t,.fz t' x::r,K=>if h:t'=.pt t then K (h ▸ x) r else none
 | .pt _,.c u::r,K=>cond (wl u) (K none r) none
 | .mp k v ag,.fz t' x::r,K=>if h:t'=.mp k v ag then K (h ▸ x) r else none
 | .mx u,r,K=>cond (clT u) (cond (tH u r λ_ _=>some ()).isSome (tH u r λx r=>K (true,x) r) (w9 u r λx r=>K (false,x) r)) none
 | _,_,_=>none
def notAgg:Value->Bool
 | .agg _=>false
 | _=>true
def wE {α:Type} (v:AV) (K:List AV->Option α):Option α :=
 match v with
 | .agg cs=>K cs
 | .bad=>none
 | .gd _ _ _=>none
 | .tup _=>none
 | .pan _=>none
 | .lit _ _=>none
 | .c u=>cond (notAgg u) (K [.c u]) none
 | v=>K [v]
def okCell:AV->Bool
 | .bad=>false
 | .gd _ _ _=>false
 | .agg _=>false
 | .tup _=>false
 | .pan _=>false
 | .lit _ _=>false
 | .c (.agg _)=>false
 | .c (.tuple _)=>false
 | _=>true
def zh (n:Int):Int:=IntKind.i64.wrap n
def wr (k:IntKind) (n:Int):AV :=
 match k with
 | .i64=>.i .i64 (zh n)
 | .u8=>.bad
 | k=>.i k (k.wrap n)
def u8of (n:Int):UInt8:=UInt8.ofNat (n % 256).toNat
def wu (op:BinOp) (k:IntKind) (x y:Int):Int :=
 let a:=BitVec.ofInt k.bits x
 let b:=BitVec.ofInt k.bits y
 match op with
 | .and=>k.wrap (a &&& b).toNat
 | .or=>k.wrap (a ||| b).toNat
 | .xor=>k.wrap (a ^^^ b).toNat
 | _=>k.wrap (a &&& ~~~b).toNat
section
variable {α:Type}
def need (side:Bool) (r:Option α):Option α:=cond side r none
def intBin (op:BinOp) (k:IntKind) (x y:Int) (K:AV->Option α):Option α :=
 match op with
 | .add=>K (wr k (x+y))
 | .sub=>K (wr k (x-y))
 | .mul=>K (wr k (x*y))
 | .and | .or | .xor | .andNot=>K (.i k (wu op k x y))
 | .eql=>K (.b (decide (x=y)))
 | .neq=>K (.b (!decide (x=y)))
 | .lss=>K (.b (decide (x<y)))
 | .leq=>K (.b (decide (x<=y)))
 | .gtr=>K (.b (decide (y<x)))
 | .geq=>K (.b (decide (y<=x)))
 | _=>none
def u8Bin (op:BinOp) (x y:UInt8) (K:AV->Option α):Option α :=
 match op with
 | .add=>K (.u (x+y))
 | .sub=>K (.u (x-y))
 | .mul=>K (.u (x*y))
 | .and=>K (.u (x &&& y))
 | .or=>K (.u (x ||| y))
 | .xor=>K (.u (x ^^^ y))
 | .andNot=>K (.u (x &&& ~~~y))
 | .eql=>K (.b (decide (x=y)))
 | .neq=>K (.b (!decide (x=y)))
 | .lss=>K (.b (decide (x.toNat<y.toNat)))
 | .leq=>K (.b (decide (x.toNat<=y.toNat)))
 | .gtr=>K (.b (decide (y.toNat<x.toNat)))
 | .geq=>K (.b (decide (y.toNat<=x.toNat)))
 | _=>none
def fits (n:Nat):Bool:=decide (n<=9223372036854775807)
def strBin (op:BinOp) (x y:List UInt8) (K:AV->Option α):Option α :=
 match op with
 | .eql=>K (.b (decide (x=y)))
 | .neq=>K (.b (!decide (x=y)))
 | .lss=>K (.b (Op.bytesLess x y))
 | .leq=>K (.b (Op.bytesLess x y||decide (x=y)))
 | .gtr=>K (.b (!(Op.bytesLess x y||decide (x=y))))
 | .geq=>K (.b (!Op.bytesLess x y))
 | _=>none
def xS (x y:AV) (K:Bool->Option α):Option α :=
 match x,y with
 | .i k a,.i k' b=>cond (decide (k=k')) (K (decide (a=b))) none
 | .u a,.u b=>K (decide (a=b))
 | .s a,.s b=>K (decide (a=b))
 | .b a,.b b=>K (a == b)
 | .kb a,.kb b=>K (a == b)
 | .kb a,.b b=>K (a == b)
 | .b a,.kb b=>K (a == b)
 | _,_=>none
def vH (P:Program) (t:TypeId) (x:AV):Bool :=
 match P.underlying t,x with
 | some (.int _),.i _ _=>true
 | some (.int _),.u _=>true
 | some .string,.s _=>true
 | some .bool,.b _=>true
 | some .bool,.kb _=>true
 | _,_=>false
def tD (P:Program):Nat->List Field->List AV->List AV->(Bool->Option α)->Option α
 | _,[],[],[],K=>K true
 | i,[f],[x],[y],K=>cond (f.name != "_"&&Nat.beq f.offset i&&vH P f.type x) (xS x y K) none
 | i,f::fs,x::xs,y::ys,K=>cond (f.name != "_"&&Nat.beq f.offset i&&vH P f.type x)
   (xS x y λr=>tD P (i+1) fs xs ys λq=>K (r&&q)) none
 | _,_,_,_,_=>none
def eqFS2 (P:Program):Nat->List Field->List AV->List AV->(Bool->Option α)->Option α
 | _,[],xs,ys,K=>match xs,ys with
  | [],[]=>K true
  | _,_=>none
 | i,f::fs,xs,ys,K=>match P.underlying f.type with
  | some (.struct gs)=>cond (f.name != "_"&&Nat.beq f.offset i&&!(P.stoodInHeld f.type))
    (tD P 0 gs.toList (xs.take (P.cellsOf f.type)) (ys.take (P.cellsOf f.type)) λr=>eqFS2 P (i+P.cellsOf f.type) fs (xs.drop (P.cellsOf f.type)) (ys.drop (P.cellsOf f.type)) λq=>K (r&&q)) none
  | _=>match xs,ys with
   | x::xs,y::ys=>cond (f.name != "_"&&Nat.beq f.offset i&&vH P f.type x)
     (xS x y λr=>eqFS2 P (i+1) fs xs ys λq=>K (r&&q)) none
   | _,_=>none
def eqAgg (P:Program) (t:TypeId) (xs ys:List AV) (K:Bool->Option α):Option α :=
 cond (!(P.eqGuardType P.depth t)&&!(P.stoodInHeld t)) (match P.underlying t with
  | some (.struct fs)=>cond (Nat.beq fs.size xs.length) (tD P 0 fs.toList xs ys K) (eqFS2 P 0 fs.toList xs ys K)
  | some (.array 2 e)=>match xs,ys with
   | [x1,x2],[y1,y2]=>cond (Nat.beq (P.cellsOf e) 1&&vH P e x1&&vH P e x2) (xS x1 y1 λr=>xS x2 y2 λq=>K (r&&q)) none
   | _,_=>none
  | _=>none) none
open Classical in
noncomputable def agr (x y:Option α):Option α:=if x=y then x else none
theorem yd (x:Option α):agr x x=x:=if_pos rfl
theorem agr_some {x y:Option α} {r:α} (h:agr x y=some r):x=some r/\y=some r:=by
 unfold agr at h;split at h
 ·next he=>exact ⟨h,by rw [<- he];exact h⟩
 ·cases h
def ux:Value->Bool
 | .slice none 0 0=>true
 | _=>false
def isSlTy (P:Program) (t:TypeId):Bool :=
 match P.underlying t with
 | some (.slice _)=>true
 | _=>false
def nilRef (P:Program) (t:TypeId) (x:AV) (v:Value):Option Bool :=
 match P.underlying t,x,v with
 | some (.pointer _),.ptr _ _,.pointer none=>some false
 | some (.pointer _),.mptr c _ _,.pointer none=>some (!c)
 | some (.pointer _),.fz (.pt _) x,.pointer none=>some (Option.isNone x)
 | some (.pointer _),.c (.pointer none),.pointer none=>some true
 | some (.map _ _),.mp _,.map none=>some false
 | some (.map _ _),.fz (.mp _ _ _) _,.map none=>some false
 | some (.map _ _),.c (.map none),.map none=>some true
 | _,_,_=>none
def nilB:AV->Bool->AV
 | .mptr _ _ _,q=>.b q
 | .fz (.pt _) _,q=>.b q
 | _,q=>.kb q
noncomputable def nilEq (e:Bool) (K:Bool->Option α):Option α:=cond e (agr (K true) (K false)) (K false)
def isBoolTy (P:Program) (t:TypeId):Bool :=
 match P.underlying t with
 | some .bool=>true
 | _=>false
def vo (v:AV) (K:Int->Option α):Option α :=
 match v with
 | .i _ n=>K n
 | .u x=>K (x.toNat:Int)
 | _=>none
def pickIx (i:Int) (K:Nat->Option α):Nat->Nat->Option α
 | 0,_=>none
 | n+1,k=>cond (decide (i=(k:Int))) (K k) (pickIx i K n (k+1))
def evBin (P:Program) (op:BinOp) (t:TypeId) (x y:AV) (K:AV->Option α):Option α :=
 match x,y with
 | .i k a,.i k' b=>cond (decide (k=k')) (intBin op k a b K) none
 | .u a,.u b=>u8Bin op a b K
 | .s a,.s b=>strBin op a b K
 | .agg xs,.agg ys=>match op with
  | .eql=>eqAgg P t xs ys λr=>K (.b r)
  | .neq=>eqAgg P t xs ys λr=>K (.b (!r))
  | _=>none
 | x,y=>cond (isBoolTy P t) (match op with
  | .eql=>xS x y λr=>K (.b r)
  | .neq=>xS x y λr=>K (.b (!r))
  | _=>none) none
def evUn (op:UnOp) (x:AV) (K:AV->Option α):Option α :=
 match op,x with
 | .neg,.i k n=>K (wr k (0-n))
 | .not,.b x=>K (.b (!x))
 | .not,.kb x=>K (.kb (!x))
 | _,_=>none
def tyOf (P:Program):Nat->TypeId->Option Ty
 | 0,_=>none
 | d+1,t=>match P.underlying t with
  | some (.int .u8)=>some .u8
  | some (.int k)=>some (.int k)
  | some .bool=>some .bool
  | some .string=>some .str
  | some (.slice e)=>(tyOf P d e).map .sl
  | some (.array n e)=>(tyOf P d e).map λa=>a.rep n
  | some (.struct fs)=>fs.toList.foldr (λf r=>match tyOf P d f.type,r with
    | some a,some b=>some (.pair a b)
    | _,_=>none) (some .unit)
  | _=>none
def tyD (P:Program) (t:TypeId):Option Ty:=tyOf P 12 t
def xl (P:Program) (e:TypeId):Bool :=
 match P.info? e with
 | some i=>match i.zero with
  | some (.agg _)=>true
  | _=>false
 | none=>false
def tyOfF (P:Program):Nat->TypeId->Option Ty
 | 0,_=>none
 | d+1,t=>match P.underlying t with
  | some (.int .u8)=>some .u8
  | some (.int k)=>some (.int k)
  | some .bool=>some .bool
  | some .string=>some .str
  | some (.slice e)=>(tyOf P d e).map .sl
  | some (.array n e)=>(tyOfF P d e).map λa=>a.rep n
  | some (.pointer e)=>(tyOfF P d e).map .pt
  | some (.map k e)=>match P.underlying k,tyOfF P d e with
   | some .string,some y=>some (.mp .str y (xl P e))
   | some (.int .u8),_=>none
   | some (.int i),some y=>some (.mp (.int i) y (xl P e))
   | _,_=>none
  | some (.struct fs)=>fs.toList.foldr (λf r=>match tyOfF P d f.type,r with
    | some a,some b=>some (.pair a b)
    | _,_=>none) (some .unit)
  | _=>none
def tyDF (P:Program) (t:TypeId):Option Ty :=
 match tyOf P 12 t with
 | some y=>some y
 | none=>tyOfF P 12 t
def tE (P:Program) (t:TypeId):Option (TypeId×Ty) :=
 match P.underlying t with
 | some (.slice e)=>(tyD P e).map λy=>(e,y)
 | _=>none
def wP (P:Program) (t:TypeId):Bool :=
 match P.underlying t with
 | some (.struct _) | some (.array _ _)=>true
 | _=>false
def tu (P:Program) (e:TypeId) (t:Ty):Bool :=
 match P.info? e with
 | some i=>Nat.beq i.size t.size
 | none=>false
def ve (P:Program) (t:TypeId) (f:Nat):Option (Nat×TypeId) :=
 match P.underlying t with
 | some (.struct fs)=>match fs[f]? with
  | some f=>cond (Nat.beq (P.cellsOf f.type) 0) none (some (f.offset,f.type))
  | none=>none
 | _=>none
end
end Go.Ev
namespace Go.Ev
def zS (kl:List Nat) (b:Nat):Bool:=kl.any λy=>Nat.beq b y
mutual
def zj (kl:List Nat):AV->AV
 | .ptr b o=>cond (zS kl b) .bad (.ptr b o)
 | .ep b t i f=>cond (zS kl b) .bad (.ep b t i f)
 | .wh b=>cond (zS kl b) .bad (.wh b)
 | .win b lo n=>cond (zS kl b) .bad (.win b lo n)
 | .mp b=>cond (zS kl b) .bad (.mp b)
 | .mptr c b o=>cond (zS kl b) .bad (.mptr c b o)
 | .fn f cs=>.fn f (uq kl cs)
 | .agg cs=>.agg (uq kl cs)
 | .tup cs=>.tup (uq kl cs)
 | .gd _ _ _=>.bad
 | .ifc t x=>.ifc t (zj kl x)
 | .pan x=>.pan (zj kl x)
 | .lit x u=>.lit (zj kl x) u
 | v=>v
def uq (kl:List Nat):List AV->List AV
 | []=>[]
 | x::r=>zj kl x::uq kl r
end
def killB (kl:List Nat):Blk->Blk
 | .vars cs=>.vars (uq kl cs)
 | x=>x
def yL (kl:List Nat) (E:Nat->AV):Nat->AV :=
 match kl with
 | []=>E
 | _::_=>λt=>zj kl (E t)
def zv (kl:List Nat) (H:Nat->Blk):Nat->Blk :=
 match kl with
 | []=>H
 | _::_=>λt=>killB kl (H t)
def St.kill (S:St) (kl:List Nat):St:=⟨yL kl S.E,zv kl S.H,S.nx,S.kl++kl⟩
def yr:AV->AV
 | .gd _ _ _=>.bad
 | v=>v
def unG (j:Nat) (w:Bool):AV->AV
 | .gd j' w' x=>cond (Nat.beq j' j&&w' == w) (yr x) (.gd j' w' x)
 | v=>v
def unGx (c:Operand) (w:Bool) (v:AV):AV :=
 match c with
 | .tmp j=>unG j w v
 | _=>v
section
variable {α:Type}
def itemsMx (t':Ty) (l:List t'.den):(t:Ty)->(List t.den->Option α)->Option α
 | .mx u,K=>if h:t'=.ln u.inn then cond (clT u) (K (List.map (λx=>(false,cast u.den_inn x)) (h ▸ l:List (Ty.ln u.inn).den))) none else none
 | _,_=>none
def uu (H:Nat->Blk) (t:Ty) (v:AV) (K:List t.den->Option α):Option α :=
 match v with
 | .sl t' l=>if h:t'=t then K (h ▸ l) else if h:t'=.ln t then K (h ▸ l:List (Ty.ln t).den) else itemsMx t' l t K
 | .c (.slice none 0 0)=>K []
 | .wh b=>match H b with
  | .data t' l=>if h:t'=t then K (h ▸ l) else none
  | _=>none
 | .win b lo n=>match H b with
  | .data t' l=>if h:t'=t then K (h ▸ ((l.drop lo).take n)) else none
  | _=>none
 | _=>none
def convD (t':Ty) (l:List t'.den):(t:Ty)->(List t.den->Option α)->Option α
 | .mx u,K=>if h:t'=.mx u then K (h ▸ l) else if h:t'=u then cond (clT u&&!decide (u=.u8)) (K (List.map (λx=>(true,x)) (h ▸ l:List u.den))) none else if h:t'=u.inn then cond (clT u&&!decide (u=.u8)) (K (List.map (λx=>(false,cast u.den_inn x)) (h ▸ l:List u.inn.den))) none else none
 | t,K=>if h:t'=t then K (h ▸ l) else if h:t'=.mx t then need (List.all (h ▸ l:List (Ty.mx t).den) λp=>p.1) (K (List.map (λp=>p.2) (h ▸ l:List (Ty.mx t).den))) else none
def mxOf (H:Nat->Blk) (y:Ty) (v:AV):Ty :=
 match v with
 | .sl t' _=>cond (decide (t'=.ln y.inn)&&!decide (t'=.ln y)) (.mx y) y
 | .wh b=>match H b with
  | .data t' _=>cond (decide (t'=.mx y)) (.mx y) y
  | _=>y
 | _=>y
def lenOf (H:Nat->Blk) (v:AV) (K:Nat->Option α):Option α :=
 match v with
 | .sl _ l=>K l.length
 | .c (.slice none 0 0)=>K 0
 | .wh b=>match H b with
  | .data _ l=>K l.length
  | _=>none
 | .win _ _ n=>K n
 | _=>none
def splice (cs:List AV) (o:Nat) (vs:List AV):List AV:=cs.take o++vs++cs.drop (o+vs.length)
def wt (cs:List AV) (o n:Nat) (isAgg:Bool) (K:AV->Option α):Option α :=
 cond isAgg (cond (Nat.ble (o+n) cs.length) (K (.agg ((cs.drop o).take n))) none)
  (match cs.drop o with
   | x::_=>K x
   | []=>none)
def loadAV (P:Program) (t:TypeId) (a:AV) (H:Nat->Blk) (K:AV->Option α):Option α :=
 match P.underlying t with
 | none=>none
 | some _=>match a with
  | .ptr b o=>match H b with
   | .vars cs=>wt cs o (P.cellsOf t) (wP P t) K
   | _=>none
  | .ep b t' ix f=>match H b with
   | .data t'' l=>cond (decide (t''=t')) (wt (x5 t'' (l.getD ix t''.dflt)) f (P.cellsOf t) (wP P t) K) none
   | _=>none
  | .fp t' l ix f=>wt (x5 t' (l.getD ix t'.dflt)) f (P.cellsOf t) (wP P t) K
  | _=>none
def storeAV (P:Program) (t:TypeId) (a v:AV) (S:St) (K:St->Option α):Option α :=
 wE v λvs=>cond ((P.info? t).isSome&&Nat.beq vs.length (P.cellsOf t)&&vs.all okCell)
  (match a with
   | .ptr b o=>match S.H b with
    | .vars cs=>cond (Nat.ble (o+vs.length) cs.length) (K ⟨S.E,zp S.H b (.vars (splice cs o vs)),S.nx,S.kl⟩) none
    | _=>none
   | .ep b t' ix f=>match S.H b with
    | .data t'' l=>cond (decide (t''=t'))
      (cond (Nat.ble (f+vs.length) t''.size)
       (tH t'' (splice (x5 t'' (l.getD ix t''.dflt)) f vs) λx r=>match r with
        | []=>K ⟨S.E,zp S.H b (.data t'' (l.set ix x)),S.nx,S.kl⟩
        | _=>none) none) none
    | _=>none
   | _=>none) none
def fillAV (P:Program) (fs:List Field):List AV->List (Nat×AV)->(List AV->Option α)->Option α
 | cs,[],K=>K cs
 | cs,(i,v)::r,K=>match fs[i]? with
  | some f=>wE v λvs=>cond (Nat.beq vs.length (P.cellsOf f.type)&&Nat.ble (f.offset+vs.length) cs.length) (fillAV P fs (splice cs f.offset vs) r K) none
  | none=>none
def fillAr (sz:Nat):List AV->List (Nat×AV)->(List AV->Option α)->Option α
 | cs,[],K=>K cs
 | cs,(i,v)::r,K=>wE v λvs=>cond (Nat.beq vs.length sz&&Nat.ble (i*sz+vs.length) cs.length) (fillAr sz (splice cs (i*sz) vs) r K) none
def zeroCells (P:Program) (t:TypeId) (K:List AV->Option α):Option α :=
 match P.info? t with
 | some i=>match i.zero with
  | some z=>wE (absV z) K
  | none=>none
 | none=>none
def elemsAV (t:Ty):Nat->List (Nat×AV)->(List t.den->Option α)->Option α
 | _,[],K=>K []
 | k,(i,v)::r,K=>cond (Nat.beq i k) (wE v λvs=>tH t vs λx rest=>match rest with
   | []=>elemsAV t (k+1) r λl=>K (x::l)
   | _=>none) none
def z7:Ty->Bool
 | .sl t=>z7 t
 | .pair x y=>z7 x||z7 y
 | .ln _=>true
 | .rg _=>true
 | .pt t=>z7 t
 | .mp k v _=>z7 k||z7 v
 | .mx _=>true
 | _=>false
def plK:Ty->Bool
 | .int _=>true
 | .u8=>true
 | .bool=>true
 | .str=>true
 | .unit=>true
 | .pair a b=>plK a&&plK b
 | _=>false
def fnT:Ty->Bool
 | .sl t=>fnT t
 | .pair a b=>fnT a&&fnT b
 | .ln t=>fnT t
 | .rg _=>false
 | .pt t=>fnT t
 | .mp k v _=>plK k&&fnT v
 | .mx _=>false
 | _=>true
def bsTy (y:Ty) (vs:List AV):Ty:=cond (vs.all λv=>(wE v λcs=>tH y cs λ_ _=>some ()).isSome) y (cond (!z7 y&&vs.all λv=>(wE v λcs=>tH y.rgm cs λ_ _=>some ()).isSome) y.rgm (.mx y))
def x6 (v:Option AV) (d:Int) (K:Int->Option α):Option α :=
 match v with
 | none=>K d
 | some v=>vo v K
def least (x y:AV) (K:AV->Option α):Option α :=
 match x,y with
 | .i k a,.i k' b=>cond (decide (k=k')) (K (.i k (cond (decide (b<a)) b a))) none
 | _,_=>none
def most (x y:AV) (K:AV->Option α):Option α :=
 match x,y with
 | .i k a,.i k' b=>cond (decide (k=k')) (K (.i k (cond (decide (a<b)) b a))) none
 | _,_=>none
def concreteB (P:Program) (t:TypeId):Bool :=
 match P.underlying t with
 | none=>false
 | some (.interface _)=>false
 | _=>true
noncomputable def evVal (P:Program) (op:Op) (ρ:Operand->AV) (H:Nat->Blk) (K:Bool->AV->Option α):Option α :=
 match op with
 | .move x | .assign x=>K true (ρ x)
 | .pick c a b=>match ρ c with
  | .kb true=>K true (unGx c true (ρ a))
  | .kb false=>K true (unGx c false (ρ b))
  | .b cv=>match b,a with
   | .const (.bool false),a=>match unGx c true (ρ a) with
    | .b x=>K true (.b (cv&&x))
    | .kb x=>K true (.b (cv&&x))
    | _=>none
   | b,.const (.bool true)=>match unGx c false (ρ b) with
    | .b x=>K true (.b (cv||x))
    | .kb x=>K true (.b (cv||x))
    | _=>none
   | _,_=>none
  | _=>none
 | .build t parts=>match P.underlying t with
  | some (.struct fs)=>cond (fs.toList.all λf=>(P.info? f.type).isSome)
    (zeroCells P t λz=>fillAV P fs.toList z (parts.toList.map λ(i,x)=>(i,ρ x)) λcs=>K true (.agg cs)) none
  | some (.array _ e)=>cond ((P.info? e).isSome) (zeroCells P t λz=>fillAr (P.cellsOf e) z (parts.toList.map λ(i,x)=>(i,ρ x)) λcs=>K true (.agg cs)) none
  | _=>none
 | .load t a=>loadAV P t (ρ a) H (K true)
 | .nilCheck x=>match ρ x with
  | .ptr b o=>K true (.ptr b o)
  | .mptr c b o=>K c (.ptr b o)
  | .ep b t i f=>K true (.ep b t i f)
  | .fp t l i f=>K true (.fp t l i f)
  | .fz (.pt t) x=>cond (xn t) (K (Option.isSome x) (.fp t [Option.getD x t.dflt] 0 0)) none
  | .fn f cs=>K true (.fn f cs)
  | .c u=>cond (wl u) (K false .bad) none
  | _=>none
 | .binOp op t x y _=>evBinS P op t (ρ x) (ρ y) K
 | .unOp op _ x=>evUn op (ρ x) (K true)
 | .makeInterface t x=>cond (concreteB P t) (K true (.ifc t (yr (ρ x)))) none
 | .convert src dst x=>match P.underlying src,P.underlying dst,ρ x with
  | some (.int _),some (.int .u8),.u n=>K true (.u n)
  | some (.int _),some (.int .u8),.i _ n=>K true (.u (u8of n))
  | some (.int _),some (.int .i8),.u _=>none
  | some (.int _),some (.int k),.u n=>K true (.i k (n.toNat:Int))
  | some (.int _),some (.int k),.i _ n=>K true (wr k n)
  | some .string,some .string,.s l=>K true (.s l)
  | some (.int _),some .string,.i _ n=>K true (.s (Utf8.encode n).data.toList)
  | some (.slice e),some .string,v=>match P.underlying e with
   | some (.int .u8)=>uu H .u8 v λl=>K true (.s l)
   | _=>none
  | _,_,_=>none
 | .makeFunc (.func f) first caps=>cond first.isEmpty (K true (.fn f (caps.toList.map ρ))) none
 | .slice t x lo hi mx=>match mx with
  | some _=>none
  | none=>match P.underlying t with
   | some .string=>match ρ x with
    | .s l=>x6 (lo.map ρ) 0 λa=>x6 (hi.map ρ) (l.length:Int) λz =>
      K (decide (0<=a)&&decide (a<=z)&&decide (z<=(l.length:Int))) (.s ((l.drop a.toNat).take (z.toNat-a.toNat)))
    | _=>none
   | some (.slice e)=>match ρ x with
    | .sl t l=>cond (tu P e t) (x6 (lo.map ρ) 0 λa=>x6 (hi.map ρ) (l.length:Int) λz =>
      K (decide (0<=a)&&decide (a<=z)&&decide (z<=(l.length:Int))) (.sl t ((l.drop a.toNat).take (z.toNat-a.toNat)))) none
    | .wh b=>match H b with
     | .data t l=>cond (tu P e t) (x6 (lo.map ρ) 0 λa=>x6 (hi.map ρ) (l.length:Int) λz =>
       K (decide (0<=a)&&decide (a<=z)&&decide (z<=(l.length:Int))) (.win b a.toNat (z.toNat-a.toNat))) none
     | _=>none
    | .win b lo' n=>match H b with
     | .data t _=>cond (tu P e t) (x6 (lo.map ρ) 0 λa=>x6 (hi.map ρ) (n:Int) λz =>
       K (decide (0<=a)&&decide (a<=z)&&decide (z<=(n:Int))) (.win b (lo'+a.toNat) (z.toNat-a.toNat))) none
     | _=>none
    | _=>none
   | _=>none
 | .fieldAddr t x f=>match ve P t f with
  | some (o,_)=>match ρ x with
   | .ptr b o'=>K true (.ptr b (o'+o))
   | .ep b t i f=>K true (.ep b t i (f+o))
   | .fp t l i f=>K true (.fp t l i (f+o))
   | _=>none
  | none=>none
 | .field t x f=>match ve P t f with
  | some (o,ft)=>match ρ x with
   | .agg cs=>match P.underlying ft with
    | some _=>wt cs o (P.cellsOf ft) (wP P ft) (K true)
    | none=>none
   | _=>none
  | none=>none
 | .indexAddr t x ix=>match P.underlying t with
  | some (.slice e)=>vo (ρ ix) λi=>match ρ x with
   | .sl t l=>cond (tu P e t) (K (decide (0<=i)&&decide (i<(l.length:Int))) (.fp t l i.toNat 0)) none
   | .wh b=>match H b with
    | .data t l=>cond (tu P e t) (K (decide (0<=i)&&decide (i<(l.length:Int))) (.ep b t i.toNat 0)) none
    | _=>none
   | .win b lo n=>match H b with
    | .data t _=>cond (tu P e t) (K (decide (0<=i)&&decide (i<(n:Int))) (.ep b t (lo+i.toNat) 0)) none
    | _=>none
   | _=>none
  | some (.array n e)=>vo (ρ ix) λi=>cond ((P.info? e).isSome) (match ρ x with
   | .ptr b o=>pickIx i (λk=>K true (.ptr b (o+k*P.cellsOf e))) n 0
   | .ep b t j f=>pickIx i (λk=>K true (.ep b t j (f+k*P.cellsOf e))) n 0
   | .fp t l j f=>pickIx i (λk=>K true (.fp t l j (f+k*P.cellsOf e))) n 0
   | _=>none) none
  | _=>none
 | .index t x ix=>match P.underlying t,ρ x with
  | some .string,.s l=>vo (ρ ix) λi=>K (decide (0<=i)&&decide (i<(l.length:Int))) (.u (l.getD i.toNat 0))
  | some (.array n e),.agg cs=>match P.underlying e with
   | some _=>vo (ρ ix) λi=>pickIx i (λk=>wt cs (k*P.cellsOf e) (P.cellsOf e) (wP P e) (K true)) n 0
   | none=>none
  | _,_=>none
 | .extract x n=>match ρ x with
  | .tup vs=>match vs[n]? with
   | some v=>K true v
   | none=>none
  | _=>none
 | .call { callee:=.builtin .len,args,argTypes }=>match args.toList,argTypes.toList with
  | [x],[t]=>match P.underlying t with
   | some .string=>match ρ x with
    | .s l=>K true (.i .i64 (l.length:Int))
    | _=>none
   | some (.slice _)=>lenOf H (ρ x) λn=>K true (.i .i64 (n:Int))
   | _=>none
  | _,_=>none
 | .call { callee:=.builtin .min,args,argTypes:=_ }=>match args.toList with
  | [x,y]=>least (ρ x) (ρ y) (K true)
  | _=>none
 | .call { callee:=.builtin .max,args,argTypes:=_ }=>match args.toList with
  | [x,y]=>most (ρ x) (ρ y) (K true)
  | _=>none
 | _=>none
where
 evBinS (P:Program) (op:BinOp) (t:TypeId) (x y:AV) (K:Bool->AV->Option α):Option α :=
  match op,x,y with
  | .quo,.i k a,.i k' b=>cond (decide (k=k')) (K (decide (b≠0)) (wr k (a.tdiv b))) none
  | .rem,.i k a,.i k' b=>cond (decide (k=k')) (K (decide (b≠0)) (.i k (a.tmod b))) none
  | .quo,.u a,.u b=>K (decide (b≠0)) (.u (a/b))
  | .rem,.u a,.u b=>K (decide (b≠0)) (.u (a % b))
  | .add,.s a,.s b=>K (fits (a.length+b.length)) (.s (a++b))
  | .shl,.i k a,.i _ b=>K (decide (0<=b)) (wr k (a*2^(min b.toNat k.bits)))
  | .shr,.i k a,.i _ b=>K (decide (0<=b)) (.i k (a.fdiv (2^(min b.toNat k.bits))))
  | .shl,.u a,.i _ b=>K (decide (0<=b)) (.u (UInt8.ofNat (a.toNat*2^(min b.toNat 8))))
  | .eql,.sl _ l,.c v=>cond (ux v&&isSlTy P t) (nilEq l.isEmpty λq=>K true (.kb q)) none
  | .neq,.sl _ l,.c v=>cond (ux v&&isSlTy P t) (nilEq l.isEmpty λq=>K true (.kb (!q))) none
  | .eql,x,.c v=>match nilRef P t x v with
   | some q=>K true (nilB x q)
   | none=>evBin P .eql t x (.c v) (K true)
  | .neq,x,.c v=>match nilRef P t x v with
   | some q=>K true (nilB x (!q))
   | none=>evBin P .neq t x (.c v) (K true)
  | op,x,y=>evBin P op t x y (K true)
mutual
def whs:AV->List Nat
 | .wh b=>[b]
 | .agg cs=>whsL cs
 | _=>[]
def whsL:List AV->List Nat
 | []=>[]
 | x::r=>whs x++whsL r
end
def fzs1:List AV->List Nat
 | []=>[]
 | .mp b::r=>b::fzs1 r
 | .wh b::r=>b::fzs1 r
 | _::r=>fzs1 r
def fzs (H:Nat->Blk):List AV->List Nat
 | []=>[]
 | .wh b::r=>b::fzs H r
 | .mp b::r=>b::fzs H r
 | .ptr b 0::r=>b::((match H b with
  | .vars cs=>fzs1 cs
  | _=>[])++fzs H r)
 | .mptr _ b 0::r=>b::((match H b with
  | .vars cs=>fzs1 cs
  | _=>[])++fzs H r)
 | _::r=>fzs H r
def whsM (H:Nat->Blk):AV->List Nat
 | .agg cs=>fzs H cs
 | x=>fzs H [x]
def fzC (H:Nat->Blk) (ks:List Nat) {α:Type} (x:AV) (K:(t:Ty)->t.den->Option α):Option α :=
 match x with
 | .i k n=>K (.int k) n
 | .u x=>K .u8 x
 | .b x=>K .bool x
 | .s x=>K .str x
 | .sl t l=>K (.sl t) l
 | .fz t x=>K t x
 | .wh b=>match H b with
  | .data t l=>cond (zS ks b&&xn t) (K (.sl t) l) none
  | _=>none
 | .mp b=>match H b with
  | .mapd kt vt ag l=>cond (zS ks b&&xn vt) (K (.mp kt vt ag) l) none
  | _=>none
 | _=>none
def fzL (H:Nat->Blk) (ks:List Nat) {α:Type}:List AV->((t:Ty)->t.den->Option α)->Option α
 | [],K=>K .unit ()
 | x::r,K=>fzC H ks x λt p=>fzL H ks r λu q=>K (.pair t u) (p,q)
def xr:List Nat->(Nat->Blk)->(Nat->Blk)
 | [],H=>H
 | b::r,H=>zp (xr r H) b .dead
mutual
def y9 (H:Nat->Blk) (ks:List Nat):AV->AV
 | .wh b=>cond (zS ks b) (match H b with
  | .data t l=>cond (xn t) (.sl t l) .bad
  | _=>.bad) (.wh b)
 | .mp b=>cond (zS ks b) (match H b with
  | .mapd kt vt ag l=>cond (xn vt) (.fz (.mp kt vt ag) l) .bad
  | _=>.bad) (.mp b)
 | .ptr b o=>cond (zS ks b) (match o,H b with
  | 0,.vars cs=>(fzL H ks cs λt x=>some (AV.fz (.pt t) (some x))).getD .bad
  | _,_=>.bad) (.ptr b o)
 | .mptr c b o=>cond (zS ks b) (match o,H b with
  | 0,.vars cs=>(fzL H ks cs λt x=>some (AV.fz (.pt t) (cond c (some x) none))).getD .bad
  | _,_=>.bad) (.mptr c b o)
 | .agg cs=>.agg (sealL H ks cs)
 | v=>zj ks v
def sealL (H:Nat->Blk) (ks:List Nat):List AV->List AV
 | []=>[]
 | x::r=>y9 H ks x::sealL H ks r
end
def St.seal (S:St) (ks:List Nat):St:=⟨yL ks S.E,xr ks (zv ks S.H),S.nx,S.kl++ks⟩
def sealing (ρ:Operand->AV) (S:St) (ks:List Nat) (f:(Operand->AV)->St->Option α):Option α :=
 match ks with
 | []=>f ρ S
 | _::_=>f (λx=>y9 S.H ks (ρ x)) (S.seal ks)
abbrev zW:=FuncId->List AV->St->{α:Type}->(AV->St->Option α)->Option α
def zH (n bytes:Nat):Bool:=decide (n*bytes<=140737488355328)
def zeroSz (P:Program) (e:TypeId) (y:Ty):Bool :=
 match P.info? e with
 | some i=>match i.zero with
  | some z=>Nat.beq z.cells.size y.size
  | none=>false
 | none=>false
def mapTy (P:Program) (t:TypeId):Option (TypeId×TypeId×Ty×Ty) :=
 match P.underlying t with
 | some (.map k e)=>match P.underlying k,tyDF P e with
  | some .string,some y=>some (k,e,.str,y)
  | some (.int .u8),_=>none
  | some (.int i),some y=>some (k,e,.int i,y)
  | _,_=>none
 | _=>none
def keyK (t:Ty) (v:AV) (K:t.den->Option α):Option α :=
 match t,v with
 | .str,.s x=>K x
 | .int k,.i k' n=>cond (decide (k'=k)) (K n) none
 | _,_=>none
def valK (ag:Bool) (cs:List AV) (K:AV->Option α):Option α :=
 cond ag (K (.agg cs)) (match cs with
  | [x]=>K x
  | _=>none)
def agK (ag:Bool) (v:AV) (K:List AV->Option α):Option α :=
 cond ag (match v with
  | .agg cs=>K cs
  | _=>none) (match v with
  | .agg _=>none
  | v=>wE v K)
def mapAt (kt vt:Ty) (ag:Bool) (H:Nat->Blk) (v:AV) (K:Nat->List (kt.den×vt.den)->Option α):Option α :=
 match v with
 | .mp b=>match H b with
  | .mapd kt' vt' ag' l=>if h:kt'=kt then (if h2:vt'=vt then cond (ag' == ag) (K b (castM h h2 l)) none else none) else none
  | _=>none
 | _=>none
def mapRd (kt vt:Ty) (ag:Bool) (H:Nat->Blk) (v:AV) (K:List (kt.den×vt.den)->Option α):Option α :=
 match v with
 | .fz (.mp kt' vt' ag') l=>if h:kt'=kt then (if h2:vt'=vt then cond (ag' == ag) (K (castM h h2 l)) none else none) else none
 | v=>mapAt kt vt ag H v λ_ l=>K l
def mapVt (vt:Ty):AV->Ty
 | .fz (.mp _ vt' _) _=>cond (decide (vt'=.ln vt.inn)) vt' vt
 | _=>vt
noncomputable def vu (P:Program) (op:Op) (ρ:Operand->AV) (S:St) (K:AV->St->Option α):Option α :=
 match op with
 | .makeMap t none=>match mapTy P t with
  | some (_,e,kt,vt)=>K (.mp S.nx) ⟨S.E,zp S.H S.nx (.mapd kt vt (xl P e) []),S.nx+1,S.kl⟩
  | none=>none
 | .lookup t m k two=>match mapTy P t with
  | some (_,e,kt,vt0)=>(λvt=>mapRd kt vt (xl P e) S.H (ρ m) λl=>keyK kt (ρ k) λkey=>zeroCells P e λz=>tH vt z λd r=>match r with
   | []=>valK (xl P e) (x5 vt ((zO kt l key).getD d)) λv=>K (cond two (.tup [v,.b (zO kt l key).isSome]) v) S
   | _=>none) (mapVt vt0 (ρ m))
  | none=>none
 | .mapUpdate t m k x=>match mapTy P t with
  | some (_,e,kt,vt)=>sealing ρ S (whsM S.H (ρ x)) λρ S=>mapAt kt vt (xl P e) S.H (ρ m) λb l=>keyK kt (ρ k) λkey=>agK (xl P e) (ρ x) λcs=>tH vt cs λd r=>match r with
   | []=>K .bad ⟨S.E,zp S.H b (.mapd kt vt (xl P e) (yA kt l key d)),S.nx,S.kl⟩
   | _=>none
  | none=>none
 | .call { callee:=.builtin .delete,args,argTypes }=>match args.toList,argTypes.toList with
  | [m,k],t::_=>match mapTy P t with
   | some (_,e,kt,vt)=>mapAt kt vt (xl P e) S.H (ρ m) λb l=>keyK kt (ρ k) λkey=>K (.tup []) ⟨S.E,zp S.H b (.mapd kt vt (xl P e) (yk kt l key)),S.nx,S.kl⟩
   | none=>none
  | _,_=>none
 | .call { callee:=.builtin .len,args,argTypes }=>match args.toList,argTypes.toList with
  | [m],[t]=>match mapTy P t with
   | some (_,e,kt,vt0)=>(λvt=>mapRd kt vt (xl P e) S.H (ρ m) λl=>K (.i .i64 (List.length l:Int)) S) (mapVt vt0 (ρ m))
   | none=>none
  | _,_=>none
 | _=>none
def slice3 (P:Program) (e:TypeId) (ρ:Operand->AV) (x lo:Option Operand) (hi mx:Operand) (K:AV->Option α):Option α :=
 match x.map ρ with
 | some (.sl y l)=>cond (tu P e y) (x6 (lo.map ρ) 0 λa=>vo (ρ hi) λz=>vo (ρ mx) λm =>
   need (decide (0<=a)&&decide (a<=z)&&decide (z<=m)&&decide (m<=(l.length:Int))) (K (.sl y ((l.drop a.toNat).take (z.toNat-a.toNat))))) none
 | _=>none
def slice3w (P:Program) (e:TypeId) (ρ:Operand->AV) (b:Nat) (hi mx:Operand) (S:St) (K:AV->St->Option α):Option α :=
 match S.H b with
 | .data y l=>cond (tu P e y) (vo (ρ hi) λz=>vo (ρ mx) λm =>
   need (decide (0<=z)&&decide (z<=m)&&decide (m<=(l.length:Int))) (K (.wh b) ⟨(S.kill [b]).E,zp (S.kill [b]).H b (.data y (l.take z.toNat)),S.nx,S.kl++[b]⟩)) none
 | _=>none
noncomputable def evEff (P:Program) (C:zW) (op:Op) (ρ:Operand->AV) (S:St) (K:AV->St->Option α):Option α :=
 match op with
 | .alloc t=>zeroCells P t λz=>K (.ptr S.nx 0) ⟨S.E,zp S.H S.nx (.vars z),S.nx+1,S.kl⟩
 | .box _ x=>wE (ρ x) λvs=>K (.ptr S.nx 0) ⟨S.E,zp S.H S.nx (.vars vs),S.nx+1,S.kl⟩
 | .buildSlice t len parts=>match tE P t with
  | some (e,y)=>cond (Nat.beq len parts.size&&tu P e y&&Nat.ble (len*y.size) 16777216)
    (sealing ρ S (whsL (parts.toList.map λ(_,x)=>ρ x)) λρ S=>(λy=>zeroCells P e λ_=>elemsAV y 0 (parts.toList.map λ(i,x)=>(i,ρ x)) λl=>K (.wh S.nx) ⟨S.E,zp S.H S.nx (.data y l),S.nx+1,S.kl⟩) (bsTy y (parts.toList.map λ(_,x)=>ρ x))) none
  | none=>none
 | .makeSlice t n c=>match tE P t with
  | some (e,y)=>cond (tu P e y&&Nat.ble 1 (P.bytesOf e)) (vo (ρ n) λn=>vo (ρ c) λc=>zeroCells P e λz=>tH y z λd r=>match r with
    | []=>need (decide (0<=n)&&decide (n<=c)&&zH c.toNat (P.bytesOf e)) (K (.wh S.nx) ⟨S.E,zp S.H S.nx (.data y (List.replicate n.toNat d)),S.nx+1,S.kl⟩)
    | _=>none) none
  | none=>none
 | .store t a x=>match ρ a with
  | .ep _ _ _ _=>sealing ρ S (whs (ρ x)) λρ S=>storeAV P t (ρ a) (ρ x) S (K .bad)
  | _=>storeAV P t (ρ a) (ρ x) S (K .bad)
 | .convert src dst x=>match P.underlying src,P.underlying dst,ρ x with
  | some .string,some (.slice e),.s l=>match P.underlying e with
   | some (.int .u8)=>K (.wh S.nx) ⟨S.E,zp S.H S.nx (.data .u8 l),S.nx+1,S.kl⟩
   | _=>none
  | some (.slice _),some (.slice e),.wh b=>match P.underlying e with
   | some (.int .u8)=>match S.H b with
    | .data .u8 l=>need (src == dst&&!l.isEmpty) (K (.sl .u8 l) (S.seal [b]))
    | _=>none
   | _=>none
  | _,_,_=>none
 | .slice t x lo (some hi) (some mx)=>match P.underlying t,ρ x with
  | some (.slice e),.wh b=>match lo,hi with
   | none,.tmp _=>slice3w P e ρ b hi mx S K
   | _,_=>sealing ρ S [b] λρ S=>slice3 P e ρ (some x) lo hi mx λv=>K v S
  | some (.slice e),.sl _ _=>slice3 P e ρ (some x) lo hi mx λv=>K v S
  | _,_=>none
 | .range t x=>match P.underlying t,ρ x with
  | some .string,.s l=>K (.ptr S.nx 0) ⟨S.E,zp S.H S.nx (.iter l 0),S.nx+1,S.kl⟩
  | _,_=>none
 | .next x true=>match ρ x with
  | .ptr b 0=>match S.H b with
   | .iter l pos=>cond (decide (pos<l.length))
     (K (.tup [.kb true,.i .i64 (pos:Int),.i .i32 ((Utf8.decode ⟨l.toArray⟩ pos).1:Int)]) ⟨S.E,zp S.H b (.iter l (pos+(Utf8.decode ⟨l.toArray⟩ pos).2)),S.nx,S.kl⟩)
     (K (.tup [.kb false]) S)
   | _=>none
  | _=>none
 | .call { callee:=.builtin .append,args,argTypes }=>match args.toList,argTypes.toList with
  | [s,x],t::ts=>match tE P t with
   | some (e,y0)=>(λy=>cond (tu P e y&&noInt P ts&&Nat.ble 1 (P.bytesOf e)&&zeroSz P e y) (itemsOrStr S.H y (ρ x) λxs=>match ρ s with
     | .c (.slice none 0 0)=>need (zH xs.length (P.bytesOf e)) (K (.wh S.nx) ⟨S.E,zp S.H S.nx (.data y xs),S.nx+1,S.kl⟩)
     | .wh b=>match S.H b with
      | .data t' l=>convD t' l y λl=>need (zH (l.length+xs.length) (P.bytesOf e))
        (K (.wh b) ⟨(S.kill [b]).E,zp (S.kill [b]).H b (.data y (l++xs)),S.nx,S.kl++[b]⟩)
      | _=>none
     | .win b lo n=>match S.H b with
      | .data t' l=>if h:t'=y then need (zH (lo+n+xs.length) (P.bytesOf e)&&Nat.beq lo 0)
        (K (.wh b) ⟨(S.kill [b]).E,zp (S.kill [b]).H b (.data y (h ▸ l.take n++xs)),S.nx,S.kl++[b]⟩) else none
      | _=>none
     | _=>none) none) (mxOf S.H y0 (ρ x))
   | none=>none
  | _,_=>none
 | .call { callee:=.builtin .clear,args,argTypes }=>match args.toList,argTypes.toList with
  | [x],[t]=>match tE P t with
   | some (e,y)=>cond (tu P e y&&zeroSz P e y) (zeroCells P e λz=>tH y z λd r=>match r with
    | []=>match ρ x with
     | .win b lo n=>match S.H b with
      | .data t' l=>if h:t'=y then K (.tup []) ⟨S.E,zp S.H b (.data y ((h ▸ l:List y.den).take lo++List.replicate n d++(h ▸ l:List y.den).drop (lo+n))),S.nx,S.kl⟩ else none
      | _=>none
     | _=>none
    | _=>none) none
   | none=>none
  | _,_=>none
 | .makeMap t n=>vu P (.makeMap t n) ρ S K
 | .lookup t m k two=>vu P (.lookup t m k two) ρ S K
 | .mapUpdate t m k x=>vu P (.mapUpdate t m k x) ρ S K
 | .call { callee:=.builtin .delete,args,argTypes }=>vu P (.call { callee:=.builtin .delete,args,argTypes }) ρ S K
 | .call { callee:=.builtin .len,args,argTypes }=>vu P (.call { callee:=.builtin .len,args,argTypes }) ρ S K
 | .call { callee:=.value f,args,.. }=>match ρ f with
  | .fn g caps=>C g (args.toList.map ρ++caps) S K
  | _=>none
 | .panic x=>match ρ x with
  | .ifc t y=>K (.pan (.ifc t y)) S
  | _=>none
 | _=>none
where
 noInt (P:Program):List TypeId->Bool
  | [t]=>match P.underlying t with
   | some (.slice _)=>true
   | some .string=>true
   | _=>false
  | _=>false
 itemsOrStr (H:Nat->Blk) (t:Ty) (v:AV) (K:List t.den->Option α):Option α :=
  match t,v with
  | .u8,.s l=>K l
  | t,v=>uu H t v K
def lenVal (P:Program):List TypeId->Bool
 | [t]=>match P.underlying t with
  | some (.map _ _)=>false
  | _=>true
 | _=>true
def uw (P:Program):Op->Bool
 | .move _ | .assign _ | .pick .. | .build .. | .load .. | .nilCheck _ | .binOp .. | .unOp .. | .makeFunc .. | .fieldAddr .. | .field .. | .indexAddr .. | .index .. | .extract .. | .makeInterface ..=>true
 | .slice _ _ _ _ mx=>mx.isNone
 | .convert _ dst _=>match P.underlying dst with
  | some (.slice _)=>false
  | _=>true
 | .call { callee:=.builtin .len,argTypes,.. }=>lenVal P argTypes.toList
 | .call { callee:=.builtin .min,.. }=>true
 | .call { callee:=.builtin .max,.. }=>true
 | _=>false
def slotOf (ops:Array Oper) (g:Nat):Option Nat:=(ops[g]?).bind (·.dst)
abbrev Check:=Op->(Operand->AV)->(Nat->AV)->Bool
def mayPan:Op->Bool
 | .call { callee:=.value _,.. }=>true
 | .panic _=>true
 | _=>false
def outK (m:Bool) (d:Option Nat) (K:St->Option α) (Kp:AV->St->Option α) (v:AV) (S':St):Option α :=
 match m,v with
 | true,.pan x=>Kp x S'
 | _,v=>K (S'.put d (yr v))
noncomputable def evRun (P:Program) (C:zW) (chk:Check) (o:Oper) (ρ:Operand->AV) (S:St) (K:St->Option α) (Kp:AV->St->Option α):Option α :=
 cond (uw P o.op) (cond (chk o.op ρ S.E) (evVal P o.op ρ S.H λside v=>need side (K (S.put o.dst (yr v)))) none) (evEff P C o.op ρ S (outK (mayPan o.op) o.dst K Kp))
noncomputable def gVal (P:Program) (chk:Check) (j:Nat) (w c:Bool) (o:Oper) (S:St) (K:St->Option α):Option α :=
 cond (chk o.op (λx=>unG j w (opd S.E x)) S.E)
  (evVal P o.op (λx=>unG j w (opd S.E x)) S.H λside v=>need (side||cond w (!c) c) (K (S.put o.dst (.gd j w (yr v))))) none
noncomputable def gEff (P:Program) (C:zW) (chk:Check) (j:Nat) (w c:Bool) (o:Oper) (S:St) (K:St->Option α) (Kp:AV->St->Option α):Option α :=
 cond (cond w c (!c))
  (evRun P C chk o (λx=>unG j w (opd S.E x)) ⟨upd S.E j (.kb w),S.H,S.nx,S.kl⟩ K Kp)
  (K (St.put ⟨upd S.E j (.kb (!w)),S.H,S.nx,S.kl⟩ o.dst (.tup [])))
def ruled (v:AV) (w:Bool):Bool :=
 match v with
 | .kb x=>!(x == w)
 | _=>false
def lvOf (v:AV) (w:Bool):Option Bool :=
 match v with
 | .b x=>some (cond w x (!x))
 | .gd _ _ (.b x)=>some (cond w x (!x))
 | _=>none
def lvAnd:Option Bool->Option Bool->Option Bool
 | none,y=>y
 | some x,none=>some x
 | some x,some y=>some (x&&y)
def lvIn (E:Nat->AV) (v:AV) (w:Bool):Option Bool :=
 match v with
 | .gd j w' _=>lvAnd (lvOf v w) (lvOf (E j) w')
 | _=>lvOf v w
def gC (w c:Bool):Option Bool->Bool
 | none=>c
 | some l=>cond w (c&&l) (c||!l)
noncomputable def evGd (P:Program) (C:zW) (chk:Check) (done:List Nat) (o:Oper) (S:St) (K:St->Option α) (Kp:AV->St->Option α) (j:Nat) (w:Bool) (j':Nat) (w' c:Bool):Option α :=
 cond (zS done j) (cond (uw P o.op) (cond (ruled (S.E j') w') (K (S.put o.dst (.tup []))) (gVal P chk j w (gC w c (lvIn S.E (S.E j') w')) o S K)) (match S.E j' with
  | .b c'=>cond (cond w' c' (!c'))
    (gEff P C chk j w c o ⟨upd (upd S.E j' (.kb w')) j (.b c),S.H,S.nx,S.kl⟩ K Kp)
    (K (St.put ⟨upd S.E j' (.kb (!w')),S.H,S.nx,S.kl⟩ o.dst (.tup [])))
  | .kb x=>cond (x == w') (gEff P C chk j w c o ⟨upd S.E j (.b c),S.H,S.nx,S.kl⟩ K Kp) (K (S.put o.dst (.tup [])))
  | _=>none)) none
def preSeal (P:Program) (op:Op) (ρ:Operand->AV):List Nat :=
 match op with
 | .buildSlice t _ parts=>match tE P t with
  | some (_,.sl _)=>whsL (parts.toList.map λ(_,x)=>ρ x)
  | _=>[]
 | _=>[]
def St.sealE (S:St) (ks:List Nat):St:=⟨λt=>y9 S.H ks (S.E t),xr ks (zv ks S.H),S.nx,S.kl++ks⟩
noncomputable def evOp (P:Program) (C:zW) (chk:Check) (ops:Array Oper) (done:List Nat) (o:Oper) (S:St) (K:St->Option α) (Kp:AV->St->Option α):Option α :=
 match o.guard with
 | none=>cond (uw P o.op) (evRun P C chk o (opd S.E) S K Kp) (match preSeal P o.op (opd S.E) with
  | []=>evRun P C chk o (opd S.E) S K Kp
  | k::ks=>evRun P C chk o (opd (S.sealE (k::ks)).E) (S.sealE (k::ks)) K Kp)
 | some (g,w)=>match slotOf ops g with
  | none=>none
  | some j=>match S.E j with
   | .kb x=>cond (x == w) (evRun P C chk o (λx=>unG j w (opd S.E x)) S K Kp) (K (S.put o.dst (.tup [])))
   | .tup []=>K (S.put o.dst (.tup []))
   | .gd j' w' (.kb c)=>cond (c == w) (evGd P C chk done o S K Kp j w j' w' c) (K (S.put o.dst (.tup [])))
   | .b c=>cond (zS done j) (cond (uw P o.op) (gVal P chk j w c o S K) (gEff P C chk j w c o S K Kp)) none
   | .gd j' w' (.b c)=>evGd P C chk done o S K Kp j w j' w' c
   | _=>none
def fresh (n:Nat) (done:List Nat):Option Nat->Bool
 | none=>true
 | some d=>Nat.blt d n&&!zS done d
structure Turn where
 k:Nat
 o:Oper
 wilds:List Nat
 avoid:List Nat
def sL:List Nat->Bool
 | []=>true
 | _=>false
def addrOK (E:Nat->AV) (free:Bool) (avoid:List Nat):AV->Bool
 | .fp _ _ _ _ | .sl _ _=>avoid.all λd=>match E d with
  | .ptr _ _=>true
  | _=>false
 | .ptr b _ | .ep b _ _ _ | .wh b | .win b _ _=>free&&avoid.all λd=>match E d with
  | .ptr b' _=>!Nat.beq b' b
  | _=>false
 | .i _ _ | .u _ | .s _=>true
 | _=>false
def isPtr:AV->Bool
 | .ptr _ _=>true
 | _=>false
def Turn.chk (s:Turn):Check:=λop ρ E =>
 match op with
 | .load _ a=>addrOK E (sL s.wilds||isPtr (ρ a)) s.avoid (ρ a)
 | .convert _ _ x=>addrOK E (sL s.wilds) s.avoid (ρ x)
 | _=>true
structure Wat where
 ix:List Nat
 b:Nat
 o:Nat
 n:Nat
def unGs:AV->AV
 | .gd _ _ x=>x
 | v=>v
def loadN (P:Program) (t:TypeId):Nat:=cond (Nat.beq (P.cellsOf t) 0) 1 (P.cellsOf t)
def Turn.watch (P:Program) (s:Turn) (E:Nat->AV):List Wat :=
 cond (sL s.wilds) [] (match s.o.op with
  | .load t a=>match unGs (opd E a) with
   | .ptr b o=>[⟨s.wilds,b,o,loadN P t⟩]
   | _=>[]
  | _=>[])
def sameCell (kl:List Nat) (x y:AV) (K:Option α):Option α :=
 match x,y with
 | .mp b,.mp b'=>cond (Nat.beq b b'&&!zS kl b) K none
 | .ptr b o,.ptr b' o'=>cond (Nat.beq b b'&&Nat.beq o o'&&!zS kl b) K none
 | .i k a,.i k' b=>cond (decide (k=k')) (need (decide (a=b)) K) none
 | .u a,.u b=>need (decide (a=b)) K
 | .s a,.s b=>need (decide (a=b)) K
 | .b a,.b b=>need (a == b) K
 | .kb a,.kb b=>need (a == b) K
 | .kb a,.b b=>need (a == b) K
 | .b a,.kb b=>need (a == b) K
 | _,_=>none
def vD (kl:List Nat):List AV->List AV->Option α->Option α
 | [],[],K=>K
 | x::xs,y::ys,K=>sameCell kl x y (vD kl xs ys K)
 | _,_,_=>none
def keepW (kl:List Nat) (H H':Nat->Blk) (k:Nat):List Wat->Option α->Option α
 | [],K=>K
 | e::r,K=>cond (zS e.ix k) (match H e.b,H' e.b with
   | .vars cs,.vars cs'=>cond (Nat.ble (e.o+e.n) cs.length&&Nat.ble (e.o+e.n) cs'.length)
     (vD kl ((cs.drop e.o).take e.n) ((cs'.drop e.o).take e.n) (keepW kl H H' k r K)) none
   | _,_=>none) (keepW kl H H' k r K)
inductive PT where
 | nil
 | one (s:Turn) (r:PT)
 | two (a b:PT)
noncomputable def yP (P:Program) (C:zW) (n:Nat) (ops:Array Oper):PT->List Nat->List Wat->St->(St->Option α)->(AV->St->Option α)->Option α
 | .nil,_,_,S,K,_=>K S
 | .one s r,done,W,S,K,Kp=>cond (fresh n done s.o.dst) (evOp P C s.chk ops done s.o S (λS' =>
   keepW (S'.kl.drop S.kl.length) S.H S'.H s.k W (yP P C n ops r (s.o.dst.toList++done) (s.watch P S.E++W) S' K Kp)) Kp) none
 | .two a b,done,W,S,K,Kp=>agr (yP P C n ops a done W S K Kp) (yP P C n ops b done W S K Kp)
def vl:Nat->List Oper->PT
 | _,[]=>.nil
 | k,o::r=>.one ⟨k,o,[],[]⟩ (vl (k+1) r)
end
def bnd (e:Edge):Bool :=
 match e.ground with
 | .textOnly _=>false
 | .gcOnly _=>false
 | _=>true
def waits (o:Oper) (i:Nat):Bool:=o.after.toList.any λe=>bnd e&&Nat.beq e.on i
def rdy (done:List Nat) (o:Oper):Bool:=o.after.toList.all λe=>!bnd e||zS done e.on
inductive Kd where
 | val | new | st (d:Nat) | wild
def xR (P:Program) (M:FuncId->Bool) (ds:List Nat) (o:Oper):Kd :=
 cond (uw P o.op) .val (match o.op with
  | .alloc _ | .box .. | .buildSlice .. | .makeSlice .. | .range ..=>.new
  | .convert src _ _=>match P.underlying src with
   | some .string=>.new
   | _=>.wild
  | .store _ (.tmp d) _=>cond (zS ds d) .wild (.st d)
  | .call { callee:=.value (.func f),.. }=>cond (M f) .new .wild
  | _=>.wild)
def isSelect:Op->Bool
 | .select ..=>true
 | _=>false
def pickV (P:Program) (may:Nat->Oper->Bool) (done:List Nat):Nat->List Oper->Option (Nat×Oper)
 | _,[]=>none
 | k,o::r=>cond (!zS done k&&uw P o.op&&rdy done o&&may k o) (some (k,o)) (pickV P may done (k+1) r)
def slLoad (P:Program) (o:Oper):Bool :=
 match o.op with
 | .load t _=>match P.underlying t with
  | some (.slice _)=>true
  | _=>false
 | _=>false
def wM (done:List Nat):Nat->List Oper->List Nat
 | _,[]=>[]
 | k,o::r=>cond (!zS done k&&rdy done o) (k::wM done (k+1) r) (wM done (k+1) r)
def sS (x:Nat):Nat->List Oper->List Nat->List Nat
 | _,[],acc=>acc
 | k,o::r,acc=>sS x (k+1) r (cond (o.after.toList.any λe=>bnd e&&zS (x::acc) e.on) (k::acc) acc)
def uO (P:Program) (M:FuncId->Bool) (ops:Array Oper) (ds done:List Nat) (x:Nat) (ox:Oper) (bh:List Nat):Nat->List Oper->Option (List Nat×List Nat)
 | _,[]=>some ([],[])
 | k,o::r=>match uO P M ops ds done x ox bh (k+1) r with
  | none=>none
  | some (wild,av)=>cond (zS done k||Nat.beq k x||zS bh k) (some (wild,av))
   (cond (ox.apart ops o) (match xR P M ds o with
    | .val=>some (wild,av)
    | .new=>some (wild,av)
    | .st d=>some (wild,d::av)
    | .wild=>some (k::wild,av)) none)
def mayPick (P:Program) (M:FuncId->Bool) (ops:Array Oper) (ds done:List Nat) (k:Nat) (o:Oper):Bool :=
 !slLoad P o||(match uO P M ops ds done k o (sS k 0 ops.toList []) 0 ops.toList with
  | some ([],_)=>true
  | _=>false)
def tM (f:Nat->Option PT):List Nat->Option PT
 | []=>none
 | [k]=>f k
 | k::r=>match f k,tM f r with
  | some a,some b=>some (.two a b)
  | _,_=>none
def plan (P:Program) (M:FuncId->Bool) (ops:Array Oper) (ds:List Nat):Nat->List Nat->Option PT
 | 0,done=>match wM done 0 ops.toList with
  | []=>some .nil
  | _=>none
 | n+1,done=>match pickV P (mayPick P M ops ds done) done 0 ops.toList with
  | some (k,o)=>match uO P M ops ds done k o (sS k 0 ops.toList []) 0 ops.toList,plan P M ops ds n (k::done) with
   | some (wild,av),some r=>some (.one ⟨k,o,wild,av⟩ r)
   | _,_=>none
  | none=>tM (λk=>match ops[k]?,plan P M ops ds n (k::done) with
   | some o,some r=>some (.one ⟨k,o,[],[]⟩ r)
   | _,_=>none) (wM done 0 ops.toList)
def dstsOf (ops:List Oper):List Nat:=ops.filterMap (·.dst)
def turnsOf (P:Program) (M:FuncId->Bool) (ops:Array Oper) (draw:Bool):Option PT :=
 cond draw (cond (ops.toList.all λo=>!isSelect o.op) (plan P M ops (dstsOf ops.toList) ops.size []) none) (some (vl 0 ops.toList))
inductive VSh where
 | i (k:IntKind) | u | b | s | sl (t:Ty) | ptr (j o:Nat) | own (j:Nat) | win (j:Nat) | mp (j:Nat) | mptr (j o:Nat) | fn (f:FuncId) (cs:VSh) | agg (cs:VSh) | tup (cs:VSh) | ifc (t:TypeId) (v:VSh) | may (a b:VSh)
 | nil | cons (a b:VSh) | nilp | bad | kb (x:Bool) | ki (k:IntKind) (n:Int) | ks (l:List UInt8) | fz (t:Ty)
@[reducible] def VSh.den:VSh->Type
 | .i _=>Int | .u=>UInt8 | .b=>Bool | .s=>List UInt8 | .sl t=>List t.den | .ptr _ _=>Unit | .own _=>Unit | .win _=>Nat×Nat | .mp _=>Unit | .mptr _ _=>Bool
 | .fn _ cs=>cs.den | .agg cs=>cs.den | .tup cs=>cs.den | .ifc _ v=>v.den | .may x y=>x.den⊕y.den | .nil=>Unit | .cons x y=>x.den×y.den | .nilp=>Unit | .bad=>Unit | .kb _=>Unit | .ki _ _=>Unit | .ks _=>Unit | .fz t=>t.den
inductive BSh where
 | vars (cs:VSh) | data (t:Ty) | iter | mapd (kt vt:Ty) (ag:Bool)
@[reducible] def BSh.den:BSh->Type
 | .vars cs=>cs.den | .data t=>List t.den | .iter=>List UInt8×Nat | .mapd kt vt _=>List (kt.den×vt.den)
@[reducible] def uJ:List (Nat×VSh)->Type
 | []=>Unit
 | (_,v)::r=>v.den×uJ r
@[reducible] def yc:List (Nat×BSh)->Type
 | []=>Unit
 | (_,v)::r=>v.den×yc r
structure Shape where
 slots:List (Nat×VSh)
 blks:List (Nat×BSh)
 nx:Nat
@[reducible] def Shape.den (sh:Shape):Type:=uJ sh.slots×yc sh.blks
abbrev yD:=List (Ex×Shape)
@[reducible] def ym:yD->Type
 | []=>Empty
 | [(_,s)]=>s.den
 | (_,s)::r=>s.den⊕ym r
structure Bd where
 m:List (Nat×Option Nat)
 z:List Nat
 y:List Nat
def zw (m:List (Nat×Option Nat)) (j:Nat):Option (Option Nat) :=
 match m with
 | []=>none
 | (j',b)::r=>cond (Nat.beq j' j) (some b) (zw r j)
def eqON:Option Nat->Option Nat->Bool
 | none,none=>true
 | some a,some b=>Nat.beq a b
 | _,_=>false
section
variable {α:Type}
def vA (B:Bd) (j:Nat) (b:Option Nat) (K:Bd->Option α):Option α :=
 match zw B.m j with
 | none=>K ⟨(j,b)::B.m,B.z,B.y⟩
 | some b'=>cond (eqON b' b) (K B) none
def lnOf (H:Nat->Blk) (b:Nat) (t:Ty):Option {t':Ty // Ty.ln t'.inn=t} :=
 match H b with
 | .data t' _=>if h:Ty.ln t'.inn=t then some ⟨t',h⟩ else none
 | _=>none
def lnMx (H:Nat->Blk) (b:Nat) (t:Ty):Option {u:Ty // Ty.ln u.inn=t} :=
 match H b with
 | .data (.mx u) _=>if h:Ty.ln u.inn=t then some ⟨u,h⟩ else none
 | _=>none
def packSl (H:Nat->Blk) (t:Ty) (x:AV) (B:Bd) (K:List t.den->Bd->Option α):Option α :=
 match x with
 | .wh b=>match lnOf H b t with
  | some ⟨t',h⟩=>uu H t' (.wh b) λl=>K (h ▸ cast (congrArg List t'.den_inn.symm) l:List t.den) ⟨B.m,b::B.z,B.y⟩
  | none=>match lnMx H b t with
   | some ⟨u,h⟩=>uu H (.mx u) (.wh b) λl=>K (h ▸ (List.map (λp=>cast u.den_inn.symm p.2) l:List (Ty.ln u.inn).den)) ⟨B.m,b::B.z,B.y⟩
   | none=>cond (xn t) (uu H t (.wh b) λl=>K l ⟨B.m,b::B.z,b::B.y⟩) none
 | .win b lo n=>cond (xn t) (uu H t (.win b lo n) λl=>K l ⟨B.m,b::B.z,b::B.y⟩) none
 | .sl t' l=>if h:t'=t then K (h ▸ l) B else if h:Ty.ln t'.inn=t then K (h ▸ cast (congrArg List t'.den_inn.symm) l:List t.den) B else none
 | x=>uu H t x λl=>K l B
def packOwn (x:AV) (j:Nat) (B:Bd) (K:Bd->Option α):Option α :=
 match x with
 | .wh b=>vA B j (some b) K
 | .c u=>cond (ux u) (vA B j none K) none
 | _=>none
def packWin (H:Nat->Blk) (x:AV) (j:Nat) (B:Bd) (K:Nat×Nat->Bd->Option α):Option α :=
 match x with
 | .win b lo n=>vA B j (some b) (K (lo,n))
 | .wh b=>match H b with
  | .data _ l=>vA B j (some b) (K (0,List.length l))
  | _=>none
 | _=>none
def packMp (x:AV) (j o:Nat) (B:Bd) (K:Bool->Bd->Option α):Option α :=
 match x with
 | .ptr b o'=>cond (Nat.beq o' o) (vA B j (some b) (K true)) none
 | .mptr c b o'=>cond (Nat.beq o' o) (vA B j (some b) (K c)) none
 | .c u=>cond (wl u) (vA B j none (K false)) none
 | _=>none
def packFp (H:Nat->Blk) (t:Ty) (b:Nat) (c:Bool) (B:Bd) (K:t.den->Bd->Option α):Option α :=
 match H b with
 | .vars cs=>fzL H (b::fzs H cs) cs λt' y =>
   if h:Ty.pt t'=t then K (h ▸ (cond c (some y) none:Option t'.den)) ⟨B.m,(b::fzs H cs)++B.z,(b::fzs H cs)++B.y⟩
   else if h:Ty.pt (.ln t'.inn)=t then cond (fnT t') (K (h ▸ cast (Ty.den_inn (.pt t')).symm (cond c (some y) none:Option t'.den)) ⟨B.m,(b::fzs H cs)++B.z,B.y⟩) none
   else none
 | _=>none
def packFz (H:Nat->Blk) (t:Ty) (x:AV) (B:Bd) (K:t.den->Bd->Option α):Option α :=
 match x with
 | .fz t' y=>if h:t'=t then K (h ▸ y) B else if h:t'.inn=t then K (h ▸ cast t'.den_inn.symm y) B else none
 | .ptr b 0=>packFp H t b true B K
 | .mptr c b 0=>packFp H t b c B K
 | _=>none
def nilV:(v:VSh)->Bd->(v.den->Bd->Option α)->Option α
 | .i _,B,K=>K (0:Int) B
 | .u,B,K=>K (0:UInt8) B
 | .b,B,K=>K false B
 | .s,B,K=>K [] B
 | .sl _,B,K=>K [] B
 | .ptr j _,B,K=>vA B j none (K ())
 | .own j,B,K=>vA B j none (K ())
 | .win j,B,K=>vA B j none (K (0,0))
 | .mp j,B,K=>vA B j none (K ())
 | .mptr j _,B,K=>vA B j none (K false)
 | .fn _ c,B,K=>nilV c B K
 | .agg c,B,K=>nilV c B K
 | .tup c,B,K=>nilV c B K
 | .ifc _ c,B,K=>nilV c B K
 | .may c _,B,K=>nilV c B λp B=>K (Sum.inl p) B
 | .nil,B,K=>K () B
 | .cons v w,B,K=>nilV v B λp B=>nilV w B λq B=>K (p,q) B
 | .nilp,B,K=>K () B
 | .bad,B,K=>K () B
 | .kb _,B,K=>K () B
 | .ki _ _,B,K=>K () B
 | .ks _,B,K=>K () B
 | .fz t,B,K=>K t.dflt B
mutual
def zr (H:Nat->Blk):(v:VSh)->AV->Bd->(v.den->Bd->Option α)->Option α
 | .i k,.i k' n,B,K=>cond (decide (k'=k)) (K n B) none
 | .u,.u x,B,K=>K x B
 | .b,.b x,B,K=>K x B
 | .b,.kb x,B,K=>K x B
 | .s,.s x,B,K=>K x B
 | .sl t,x,B,K=>packSl H t x B K
 | .ptr j o,.ptr b o',B,K=>cond (Nat.beq o' o) (vA B j (some b) (K ())) none
 | .own j,x,B,K=>packOwn x j B (K ())
 | .win j,x,B,K=>packWin H x j B K
 | .mp j,.mp b,B,K=>vA B j (some b) (K ())
 | .mptr j o,x,B,K=>packMp x j o B K
 | .fn f cs,.fn f' l,B,K=>cond (Nat.beq f' f) (zt H cs l B K) none
 | .agg cs,.agg l,B,K=>zt H cs l B K
 | .tup cs,.tup l,B,K=>zt H cs l B K
 | .nilp,.c u,B,K=>cond (wl u) (K () B) none
 | .kb x,.kb y,B,K=>cond (x == y) (K () B) none
 | .ki k n,.i k' n',B,K=>cond (decide (k'=k)&&decide (n'=n)) (K () B) none
 | .ks l,.s l',B,K=>cond (decide (l'=l)) (K () B) none
 | .bad,_,B,K=>K () B
 | .fz t,x,B,K=>packFz H t x B K
 | .ifc t v,.ifc t' x,B,K=>cond (Nat.beq t' t) (zr H v x B K) none
 | _,_,_,_=>none
def zt (H:Nat->Blk):(v:VSh)->List AV->Bd->(v.den->Bd->Option α)->Option α
 | .nil,[],B,K=>K () B
 | .cons v w,x::r,B,K=>zr H v x B λp B=>zt H w r B λq B=>K (p,q) B
 | _,_,_,_=>none
end
def tN (S:St):(l:List (Nat×VSh))->Bd->(uJ l->Bd->Option α)->Option α
 | [],B,K=>K () B
 | (t,v)::r,B,K=>zr S.H v (S.E t) B λp B=>tN S r B λq B=>K (p,q) B
def mapB (pin:Nat) (B:Bd) (j:Nat) (K:Option Nat->Bd->Option α):Option α :=
 match zw B.m j with
 | some o=>K o B
 | none=>cond (Nat.blt j pin) (vA B j (some j) (K (some j))) none
def packBlk (pin:Nat) (H:Nat->Blk) (j:Nat):(sh:BSh)->Bd->(sh.den->Bd->Option α)->Option α
 | .vars cs,B,K=>match zw B.m j with
  | some (some b)=>cond (Nat.ble pin j||Nat.beq b j) (match H b with
   | .vars l=>zt H cs l B K
   | _=>none) none
  | some none=>cond (Nat.ble pin j) (nilV cs B K) none
  | none=>none
 | .data t,B,K=>match zw B.m j with
  | some (some b)=>match H b with
   | .data t' l=>convD t' l t λl=>K l B
   | _=>none
  | some none=>cond (Nat.ble pin j) (K [] B) none
  | none=>none
 | .iter,B,K=>match zw B.m j with
  | some (some b)=>cond (Nat.ble pin j||Nat.beq b j) (match H b with
   | .iter s pos=>K (s,pos) B
   | _=>none) none
  | _=>none
 | .mapd kt vt ag,B,K=>mapB pin B j λo B=>match o with
  | some b=>match H b with
   | .mapd kt' vt' ag' l=>if h:kt'=kt then (if h2:vt'=vt then cond (ag' == ag) (K (castM h h2 l) B) none else none) else none
   | _=>none
  | none=>cond (Nat.ble pin j) (K [] B) none
def uN (pin:Nat) (H:Nat->Blk):(l:List (Nat×BSh))->Bd->(yc l->Bd->Option α)->Option α
 | [],B,K=>K () B
 | (j,sh)::r,B,K=>packBlk pin H j sh B λp B=>uN pin H r B λq B=>K (p,q) B
def t8:List Nat->Bool
 | []=>true
 | x::r=>!(r.any λy=>Nat.beq x y)&&t8 r
def Bd.ok (B:Bd):Bool :=
 let bs:=B.m.filterMap (·.2)
 t8 bs&&bs.all λb=>!(B.z.any λy=>Nat.beq b y)
def zb (bl:List (Nat×BSh)) (j:Nat):Option BSh :=
 match bl with
 | []=>none
 | (k,s)::r=>cond (Nat.beq k j) (some s) (zb r j)
def zu (bl:List (Nat×BSh)):VSh->Bool
 | .ptr j _=>(zb bl j).isSome
 | .mp j=>(zb bl j).isSome
 | .mptr j _=>(zb bl j).isSome
 | .own j=>match zb bl j with
  | some (.data _)=>true
  | _=>false
 | .win j=>match zb bl j with
  | some (.data _)=>true
  | _=>false
 | .fn _ cs=>zu bl cs
 | .agg cs=>zu bl cs
 | .tup cs=>zu bl cs
 | .ifc _ v=>zu bl v
 | .may v w=>zu bl v&&zu bl w
 | .cons v w=>zu bl v&&zu bl w
 | _=>true
def bshOK (bl:List (Nat×BSh)):BSh->Bool
 | .vars cs=>zu bl cs
 | _=>true
def blksOK (nx:Nat) (bl0 bl:List (Nat×BSh)):Bool:=bl.all λp=>Nat.blt p.1 nx&&bshOK bl0 p.2
def shapeOK (pin:Nat) (sh:Shape):Bool:=Nat.ble pin sh.nx&&(sh.slots.all λp=>zu sh.blks p.2)&&blksOK sh.nx sh.blks sh.blks
def preB (pin:Nat):List (Nat×BSh)->List (Nat×Option Nat)
 | []=>[]
 | (_,.mapd _ _ _)::r=>preB pin r
 | (j,_)::r=>cond (Nat.blt j pin) ((j,some j)::preB pin r) (preB pin r)
def pack (pin:Nat) (sh:Shape) (S:St) (K:sh.den->Option α):Option α :=
 cond (shapeOK pin sh) (tN S sh.slots ⟨preB pin sh.blks,[],[]⟩ λp B=>uN pin S.H sh.blks B λq B=>cond B.ok (K (p,q)) none) none
end
mutual
def w6:(v:VSh)->v.den->AV
 | .i k,n=>.i k n | .u,x=>.u x | .b,x=>.b x | .s,x=>.s x | .sl t,l=>.sl t l | .ptr j o,_=>.ptr j o | .own j,_=>.wh j | .win j,p=>.win j p.1 p.2 | .mp j,_=>.mp j | .mptr j o,c=>.mptr c j o
 | .fn f cs,p=>.fn f (unL cs p) | .agg cs,p=>.agg (unL cs p) | .tup cs,p=>.tup (unL cs p) | .nilp,_=>.c (.pointer none)
 | .kb x,_=>.kb x | .ki k n,_=>.i k n | .ks l,_=>.s l | .fz t,x=>.fz t x | .ifc t v,p=>.ifc t (w6 v p)
 | .may v w,p=>match (p:v.den⊕w.den) with
  | .inl p=>w6 v p
  | .inr p=>.pan (w6 w p)
 | _,_=>.bad
def unL:(v:VSh)->v.den->List AV
 | .cons v w,p=>w6 v p.1::unL w p.2
 | _,_=>[]
end
def unB:(v:BSh)->v.den->Blk
 | .vars cs,p=>.vars (unL cs p) | .data t,l=>.data t l | .iter,p=>.iter p.1 p.2 | .mapd kt vt ag,l=>.mapd kt vt ag l
def wK:(l:List (Nat×VSh))->uJ l->(Nat->AV)
 | [],_=>λ_=>.bad
 | (t,v)::r,p=>upd (wK r p.2) t (w6 v p.1)
def zT:(l:List (Nat×BSh))->yc l->(Nat->Blk)
 | [],_=>λ_=>.dead
 | (j,v)::r,p=>zp (zT r p.2) j (unB v p.1)
def zZ (sh:Shape) (p:sh.den):St:=⟨wK sh.slots p.1,zT sh.blks p.2,sh.nx,[]⟩
section
variable {α:Type}
def eqEx:Ex->Ex->Bool
 | .normal,.normal=>true
 | .ret,.ret=>true
 | .pan,.pan=>true
 | .exit a,.exit b=>Nat.beq a b
 | _,_=>false
def xF (pin:Nat) (S:St) (ex:Ex):(o:yD)->(ym o->Option α)->Option α
 | [],_=>none
 | [(e,s)],K=>cond (eqEx e ex) (pack pin s S K) none
 | (e,s)::y::r,K=>cond (eqEx e ex) (pack pin s S λp=>K (.inl p)) (xF pin S ex (y::r) λq=>K (.inr q))
def vi:(o:yD)->ym o->(Ex->St->Option α)->Option α
 | [],_,_=>none
 | [(e,s)],p,K=>K e (zZ s p)
 | (e,s)::y::r,p,K=>match p with
  | .inl p=>K e (zZ s p)
  | .inr q=>vi (y::r) q K
end
inductive HT where
 | leaf
 | two (a b:HT)
 | one (a:HT)
 | join (o:yD) (h:HT)
 | loop (sh:Shape) (o:yD) (run:sh.den->Option (ym o)) (h:HT)
def HT.fst:HT->HT
 | .two a _=>a
 | .one a=>a
 | .join _ h=>h
 | _=>.leaf
def HT.snd:HT->HT
 | .two _ b=>b
 | _=>.leaf
def xp (pin:Nat) {α:Type} (h:HT) (f:{β:Type}->HT->(Ex->St->Option β)->Option β) (K:Ex->St->Option α):Option α :=
 match h with
 | .join o h=>(f h λex S=>xF pin S ex o some).bind λr=>vi o r K
 | h=>f h K
def iter {σ τ:Type} (f:σ->Option (σ⊕τ)):Nat->σ->Option τ
 | 0,_=>none
 | n+1,p=>match f p with
  | none=>none
  | some (.inl q)=>iter f n q
  | some (.inr r)=>some r
def isLoopH:HT->Bool
 | .loop _ _ _ _=>true
 | _=>false
noncomputable def ev (P:Program) (C:zW) (M:FuncId->Bool) (pin n:Nat):Code->HT->St->{α:Type}->(Ex->St->Option α)->Option α
 | .skip,_,S,_,K=>K .normal S
 | .region _ ops draw,_,S,_,K=>match turnsOf P M ops draw with
  | none=>none
  | some ts=>yP P C n ops ts [] [] S (λS'=>K .normal ⟨λt=>yr (S'.E t),S'.H,S'.nx,S'.kl⟩) λx S'=>cond (Nat.ble 1 n) (K .pan ⟨upd (λ_=>.bad) 0 (yr x),S'.H,S'.nx,S'.kl⟩) none
 | .seq a b,h,S,_,K=>match h with
  | .loop sh o run _=>pack pin sh S λp=>(run p).bind λr=>vi o r K
  | h=>xp pin h.fst (λh=>ev P C M pin n a h S) λex S'=>match ex with
   | .normal=>xp pin h.snd (λh=>ev P C M pin n b h S') K
   | ex=>K ex S'
 | .cond c a b,h,S,_,K=>match opd S.E c with
  | .kb true=>xp pin h.fst (λh=>ev P C M pin n a h S) K
  | .kb false=>xp pin h.snd (λh=>ev P C M pin n b h S) K
  | .b x=>cond x (xp pin h.fst (λh=>ev P C M pin n a h S) K) (xp pin h.snd (λh=>ev P C M pin n b h S) K)
  | _=>none
 | .block id c,h,S,_,K=>match h with
  | .loop sh o run _=>pack pin sh S λp=>(run p).bind λr=>vi o r K
  | h=>xp pin h.fst (λh=>ev P C M pin n c h S) λex S'=>match ex with
   | .exit id'=>cond (Nat.beq id' id) (K .normal S') (K (.exit id') S')
   | ex=>K ex S'
 | .loop _,.loop sh o run h,S,_,K=>cond (isLoopH h) none (pack pin sh S λp=>(run p).bind λr=>vi o r K)
 | .exit id,_,S,_,K=>K (.exit id) S
 | .ret,_,S,_,K=>K .ret S
 | .label _,_,S,_,K=>K .normal S
 | .scope c,h,S,_,K=>xp pin h.fst (λh=>ev P C M pin n c h S) K
 | _,_,_,_,_=>none
noncomputable def round (P:Program) (C:zW) (M:FuncId->Bool) (pin n:Nat) (c:Code) (h:HT) (sh:Shape) (o:yD) (p:sh.den):Option (sh.den⊕ym o) :=
 xp pin h (λh=>ev P C M pin n c h (zZ sh p)) λex S=>match ex with
  | .normal=>pack pin sh S λq=>some (.inl q)
  | ex=>xF pin S ex o λr=>some (.inr r)
def resAV {α:Type} (P:Program) (S:St):List ResultVar->(List AV->Option α)->Option α
 | [],K=>K []
 | .tmp t::r,K=>resAV P S r λvs=>K (S.E t::vs)
 | .cell a t::r,K=>loadAV P t (S.E a) S.H λv=>resAV P S r λvs=>K (v::vs)
def argsE:Nat->List AV->Nat->AV
 | _,[]=>λ_=>.bad
 | k,v::r=>upd (argsE (k+1) r) k (yr v)
def wk:AV->Bool
 | .pan _=>false
 | _=>true
noncomputable def evFn {α:Type} (P:Program) (C:zW) (M:FuncId->Bool) (pin:Nat) (fn:Func) (h:HT) (args:List AV) (S:St) (K:AV->St->Option α):Option α :=
 match fn.body with
 | none=>none
 | some c=>cond (Nat.ble args.length fn.ntmps) (xp pin h (λh=>ev P C M pin fn.ntmps c h ⟨argsE 0 args,S.H,S.nx,[]⟩) λex S'=>match ex with
  | .exit _=>none
  | .pan=>K (.pan (S'.E 0)) ⟨yL S'.kl S.E,S'.H,S'.nx,S.kl++S'.kl⟩
  | _=>resAV P S' fn.results.toList λvs=>match vs with
   | [v]=>cond (wk v) (K v ⟨yL S'.kl S.E,S'.H,S'.nx,S.kl++S'.kl⟩) none
   | vs=>K (.tup vs) ⟨yL S'.kl S.E,S'.H,S'.nx,S.kl++S'.kl⟩) none
structure Orc where
 args:VSh
 blks:List (Nat×BSh)
 out:VSh
 oblks:List (Nat×BSh)
 run:args.den×yc blks->Option (out.den×yc oblks)
mutual
def tL (ρ:Nat->Nat):AV->AV
 | .ptr b o=>.ptr (ρ b) o
 | .ep b t i f=>.ep (ρ b) t i f
 | .wh b=>.wh (ρ b)
 | .mp b=>.mp (ρ b)
 | .mptr c b o=>.mptr c (ρ b) o
 | .win b lo n=>.win (ρ b) lo n
 | .fn f cs=>.fn f (renL ρ cs)
 | .agg cs=>.agg (renL ρ cs)
 | .tup cs=>.tup (renL ρ cs)
 | .gd _ _ _=>.bad
 | .ifc t x=>.ifc t (tL ρ x)
 | .pan x=>.pan (tL ρ x)
 | .lit _ _=>.bad
 | v=>v
def renL (ρ:Nat->Nat):List AV->List AV
 | []=>[]
 | x::r=>tL ρ x::renL ρ r
end
def renB (ρ:Nat->Nat):Blk->Blk
 | .vars cs=>.vars (renL ρ cs)
 | x=>x
mutual
def va:VSh->Bool
 | .sl _=>true
 | .fz _=>true
 | .fn _ c=>va c
 | .agg c=>va c
 | .tup c=>va c
 | .ifc _ v=>va v
 | .may v w=>va v||va w
 | .cons x y=>va x||va y
 | _=>false
end
def slTy:Ty->Bool
 | .sl _=>true
 | .pair x y=>slTy x||slTy y
 | .ln t=>slTy t
 | .rg t=>slTy t
 | .pt _=>true
 | .mp _ _ _=>true
 | .mx _=>true
 | _=>false
def wC:List (Nat×BSh)->Bool
 | []=>false
 | (_,.vars c)::r=>va c||wC r
 | (_,.data t)::r=>slTy t||wC r
 | (_,.mapd k t _)::r=>slTy k||slTy t||wC r
 | _::r=>wC r
def flT:Ty->Bool
 | .sl t=>flT t
 | .pair x y=>flT x&&flT y
 | .ln t=>flT t
 | .rg t=>flT t
 | .pt _=>false
 | .mp _ _ _=>false
 | .mx _=>false
 | _=>true
def yu:VSh->Bool
 | .sl t=>z7 t
 | .fz t=>z7 t
 | .fn _ c=>yu c
 | .agg c=>yu c
 | .tup c=>yu c
 | .ifc _ v=>yu v
 | .may v w=>yu v||yu w
 | .cons x y=>yu x||yu y
 | _=>false
def xq:List (Nat×BSh)->Bool
 | []=>false
 | (_,.vars c)::r=>yu c||xq r
 | (_,.data t)::r=>z7 t||xq r
 | (_,.mapd k t _)::r=>z7 k||z7 t||xq r
 | _::r=>xq r
def wq:List (Nat×BSh)->List Nat
 | []=>[]
 | (j,.data _)::r=>j::wq r
 | (j,.mapd _ _ _)::r=>j::wq r
 | _::r=>wq r
def renOf (B:Bd) (n nx:Nat) (j:Nat):Nat :=
 cond (Nat.ble n j) (nx+j) (match zw B.m j with
  | some (some b)=>b
  | _=>nx+j)
def vx (ρ:Nat->Nat):(l:List (Nat×BSh))->yc l->(Nat->Blk)->(Nat->Blk)
 | [],_,H=>H
 | (j,v)::r,p,H=>zp (vx ρ r p.2 H) (ρ j) (renB ρ (unB v p.1))
def unVK {α:Type}:(v:VSh)->v.den->(AV->Option α)->Option α
 | .may v w,p,K=>match (p:v.den⊕w.den) with
  | .inl p=>K (w6 v p)
  | .inr p=>K (.pan (w6 w p))
 | v,p,K=>K (w6 v p)
def Orc.call {α:Type} (o:Orc) (args:List AV) (S:St) (K:AV->St->Option α):Option α :=
 zt S.H o.args args ⟨[],[],[]⟩ λp B=>uN 0 S.H o.blks B λq B=>cond B.ok
  ((o.run (p,q)).bind λr =>
   let ρ:=renOf B o.blks.length S.nx
   let gone:=cond (va o.out||wC o.oblks) (cond (yu o.out||xq o.oblks) (B.z++B.y) B.y) []
   let kl:=gone++(wq o.blks).map ρ
   unVK o.out r.1 λv=>K (tL ρ v) ⟨yL kl S.E,vx ρ o.oblks r.2 (xr kl (zv kl S.H)),S.nx+(o.blks.length+o.oblks.length),S.kl++kl⟩) none
def BSh.tag:BSh->Nat
 | .vars _=>1
 | _=>0
def tagO:Option BSh->Nat
 | some s=>s.tag
 | none=>0
def notIter:BSh->Bool
 | .iter=>false
 | _=>true
def Orc.fits (o:Orc):Bool :=
 t8 (o.oblks.map (·.1))&&((List.range o.blks.length).all λj=>(zb o.blks j).isSome)&&zu o.blks o.args&&zu o.oblks o.out &&
 (o.blks.all λp=>Nat.blt p.1 o.blks.length&&bshOK o.blks p.2&&notIter p.2&&(Nat.beq p.2.tag 0||Nat.beq (tagO (zb o.oblks p.1)) p.2.tag)) &&
 (o.oblks.all λp=>Nat.blt p.1 (o.blks.length+o.oblks.length)&&bshOK o.oblks p.2&&notIter p.2)
def fitsFn:VSh->List AV->Bool
 | .cons (.fn f _) r,.fn f' _::xs=>Nat.beq f f'&&fitsFn r xs
 | .cons _ r,_::xs=>fitsFn r xs
 | _,_=>true
def mild (X:FuncId->Option Bool) (Y:FuncId->Option (List AV->Option AV)) (f:FuncId):Bool :=
 match X f with
 | some b=>b
 | none=>match Y f with
  | some _=>true
  | none=>false
abbrev xV:=List AV->St->Option (Bool×AV×St)
noncomputable def callX (P:Program) (X:FuncId->List AV->Option Orc) (B:FuncId->Option Bool) (Y:FuncId->Option (List AV->Option AV)) (Z:FuncId->Option xV) (I:FuncId->Bool):Nat->zW
 | 0=>λ_ _ _ _ _=>none
 | d+1=>λf args S _ K=>match X f args with
  | some o=>o.call args S K
  | none=>match Y f with
   | some g=>match g args with
    | some v=>cond (wk v) (K v S) none
    | none=>none
   | none=>match Z f with
    | some z=>match z args S with
     | some (side,v,S')=>need side (cond (wk v) (K v S') none)
     | none=>none
    | none=>match I f,P.funcs[f]? with
     | true,some fn=>evFn P (callX P X B Y Z I d) (mild B Y) 0 fn .leaf args S K
     | _,_=>none
def packR {α:Type} (H:Nat->Blk):(v:VSh)->AV->Bd->(v.den->Bd->Option α)->Option α
 | .may _ v,.pan x,B,K=>zr H v x B λq B=>K (Sum.inr q) B
 | .may v _,x,B,K=>zr H v x B λp B=>K (Sum.inl p) B
 | _,.pan _,_,_=>none
 | v,x,B,K=>zr H v x B K
noncomputable def zQ (P:Program) (C:zW) (M:FuncId->Bool) (fn:Func) (h:HT) (o:Orc) (p:o.args.den×yc o.blks):Option (o.out.den×yc o.oblks) :=
 evFn P C M o.blks.length fn h (unL o.args p.1) ⟨λ_=>.bad,zT o.blks p.2,o.blks.length,[]⟩ λv S =>
  packR S.H o.out v ⟨((List.range o.blks.length).filter λj=>(zb o.oblks j).isSome).map λj=>(j,some j),[],[]⟩ λx B=>uN o.blks.length S.H o.oblks B λy B=>cond B.ok (some (x,y)) none
end Go.Ev
namespace Go.Ev
open Go
def rowAt (w:World) (g o:Nat) (vs:List Value):Prop:=∀ i,(h:i<vs.length)->w.cell? ⟨g,o+i,none⟩=some vs[i]
structure Keep (N:Nat->Prop) (w w':World):Prop where
 size:w.heap.size<=w'.heap.size
 keep:∀ g,g<w.heap.size->¬ N g->w'.heap[g]?=w.heap[g]?
theorem cell?_of_heap {w w':World} {g o:Nat} (h:w'.heap[g]?=w.heap[g]?):w'.cell? ⟨g,o,none⟩=w.cell? ⟨g,o,none⟩:=by
 simp [World.cell?,h]
theorem frozen?_of_heap {w w':World} {g o:Nat} (h:w'.heap[g]?=w.heap[g]?):w'.frozen? ⟨g,o,none⟩=w.frozen? ⟨g,o,none⟩:=by
 simp [World.frozen?,h]
theorem ze {w w':World} {g o:Nat} {vs:List Value} (h:w'.heap[g]?=w.heap[g]?) (hr:rowAt w g o vs):rowAt w' g o vs :=
 λi hi=>by rw [cell?_of_heap h];exact hr i hi
structure NN where
 all:Nat->Prop
 trk:Nat->Prop
 le:∀ g,trk g->all g
 reg:Nat->Prop:=λ_=>False
 unf:Nat->Prop:=λ_=>False
instance:CoeFun NN λ_=>Nat->Prop:=⟨NN.all⟩
def lnN (N:NN):Ty->Nat->Prop
 | .ln _=>N.trk
 | .rg _=>λg=>N.trk g\/¬ N.reg g
 | _=>N.all
theorem lnN_le {N:NN} {t:Ty} {g:Nat} (ht:xn t=true) (h:lnN N t g):N.all g:=by
 cases t <;> first | exact h | exact N.le g h | cases ht
theorem yy {N:NN} {t:Ty} {g:Nat} (h:N.trk g):lnN N t g:=by
 cases t <;> first | exact h | exact N.le g h | exact .inl h
structure Sub (w:World) (N' N:NN):Prop where
 all:∀ g,g<w.heap.size->N'.all g->N.all g
 trk:∀ g,g<w.heap.size->N'.trk g->N.trk g
 reg:∀ g,g<w.heap.size->N.reg g->N'.reg g
 unf:∀ g,g<w.heap.size->N'.unf g->N.unf g
theorem Sub.refl (w:World) (N:NN):Sub w N N:=⟨λ_ _ h=>h,λ_ _ h=>h,λ_ _ h=>h,λ_ _ h=>h⟩
theorem Sub.ln {w:World} {N' N:NN} (h:Sub w N' N) {t:Ty} {g:Nat} (hg:g<w.heap.size) (hn:lnN N' t g):lnN N t g:=by
 cases t <;> first | exact h.all g hg hn | exact h.trk g hg hn | exact hn.imp (h.trk g hg) λhr hr'=>hr (h.reg g hg hr')
def Unf (w:World) (N:NN) (g o n:Nat):Prop:=N.unf g->∀ k,k<n->w.frozen? ⟨g,o+k,none⟩=false
theorem Unf.sub {w:World} {N:NN} {g o lo n len sz:Nat} (h:Unf w N g o (len*sz)) (hle:lo+n<=len):Unf w N g (o+lo*sz) (n*sz):=λhu k hk=>by
 have:(lo+n)*sz<=len*sz:=uf _ hle;rw [Nat.add_mul] at this;rw [Nat.add_assoc];exact h hu _ (by omega)
@[reducible] def NN.low (N:NN):NN:=⟨N.trk,N.trk,λ_ h=>h,N.reg,N.unf⟩
theorem Sub.low {w:World} {N' N:NN} (h:Sub w N' N):Sub w N'.low N.low:=⟨h.trk,h.trk,h.reg,h.unf⟩
theorem Sub.lowIn {w:World} {N:NN}:Sub w N.low N:=⟨λg _ h=>N.le g h,λ_ _ h=>h,λ_ _ h=>h,λ_ _ h=>h⟩
def IsVal (ag:Bool) (cs:List Value) (v:Value):Prop:=(ag=true/\v=.agg cs.toArray)\/(ag=false/\notAgg v=true/\cs=[v])
def RelD (w:World) (N:NN):(t:Ty)->t.den->List Value->Prop
 | .int k,n,vs=>vs=[.int k n]
 | .u8,x,vs=>vs=[.int .u8 (UInt8.toNat x:Int)]
 | .bool,x,vs=>vs=[.bool x]
 | .str,x,vs=>vs=[.string ⟨List.toArray x⟩]
 | .sl t,l,vs=>∃ a c,vs=[.slice a (List.length l) c]/\List.length l<=c /\
   (0<List.length l->∃ g o,a=some ⟨g,o,none⟩/\¬ lnN N t g/\g<w.heap.size/\Unf w N g o (List.length l*t.size) /\
    ∀ i,(h:i<List.length l)->∃ es,es.length=t.size/\rowAt w g (o+i*t.size) es/\RelD w N t (l[i]'h) es)
 | .unit,_,vs=>vs=[]
 | .pair a b,p,vs=>∃ xs ys,vs=xs++ys/\RelD w N a p.1 xs/\RelD w N b p.2 ys
 | .ln t,x,vs=>RelD w N t x vs
 | .rg t,x,vs=>RelD w N t x vs
 | .pt t,x,vs=>∃ p,vs=[.pointer p]/\((Option.isSome x=false/\p=none)\/∃ g o y es,Option.isSome x=true/\Option.getD x t.dflt=y/\p=some ⟨g,o,none⟩/\¬ lnN N t g/\g<w.heap.size/\Unf w N g o t.size /\
   es.length=t.size/\rowAt w g o es/\RelD w N t y es)
 | .mp k v ag,l,vs=>∃ a,vs=[.map a]/\(∃ g es c,a=some g/\¬ lnN N v g/\g<w.heap.size/\w.heap[g]?=some (.map es c)/\MapKept.Stamped es c /\
   es.toList.length=List.length l/\∀ i,(h:i<List.length l)->(h':i<es.toList.length)->RelD w N k (l[i]'h).1 [es.toList[i].key]/\∃ cs,RelD w N v (l[i]'h).2 cs/\IsVal ag cs es.toList[i].val)
 | .mx u,p,vs=>clT u=true/\RelD w N.low u p.2 vs/\(p.1=true->RelD w N u p.2 vs)
theorem RelD.length {w:World} {N:NN}:∀ {t:Ty} {x:t.den} {vs:List Value},RelD w N t x vs->vs.length=t.size
 | .int _,_,_,h=>by simp only [RelD] at h;simp [h,Ty.size]
 | .u8,_,_,h=>by simp only [RelD] at h;simp [h,Ty.size]
 | .bool,_,_,h=>by simp only [RelD] at h;simp [h,Ty.size]
 | .str,_,_,h=>by simp only [RelD] at h;simp [h,Ty.size]
 | .sl _,_,_,h=>by simp only [RelD] at h;obtain ⟨_,_,h,_⟩:=h;simp [h,Ty.size]
 | .unit,_,_,h=>by simp only [RelD] at h;simp [h,Ty.size]
 | .pair a b,_,_,h=>by
  simp only [RelD] at h;obtain ⟨xs,ys,rfl,h1,h2⟩:=h;simp [RelD.length h1,RelD.length h2,Ty.size]
 | .ln t,_,_,h=>by
  simp only [RelD] at h;simpa [Ty.size] using RelD.length h
 | .rg t,_,_,h=>by
  simp only [RelD] at h;simpa [Ty.size] using RelD.length h
 | .pt _,_,_,h=>by simp only [RelD] at h;obtain ⟨_,h,_⟩:=h;simp [h,Ty.size]
 | .mp _ _ _,_,_,h=>by simp only [RelD] at h;obtain ⟨_,h,_⟩:=h;simp [h,Ty.size]
 | .mx u,_,_,h=>by simp only [RelD] at h;simpa [Ty.size] using RelD.length h.2.1
theorem Unf.keep {w w':World} {N N':NN} {g o n:Nat} (hg:g<w.heap.size) (hh:w'.heap[g]?=w.heap[g]?) (hN:Sub w N' N) (h:Unf w N g o n):Unf w' N' g o n:=λhu k hk=>by
 rw [frozen?_of_heap hh];exact h (hN.unf g hg hu) k hk
theorem RelD.keep {w w':World} {N N':NN} (hk:Keep N.trk w w') (hN:Sub w N' N) :
  ∀ {t:Ty} {x:t.den} {vs:List Value},RelD w N t x vs->RelD w' N' t x vs
 | .int _,_,_,h=>h
 | .u8,_,_,h=>h
 | .bool,_,_,h=>h
 | .str,_,_,h=>h
 | .sl t,l,vs,h=>by
  simp only [RelD] at h ⊢;obtain ⟨a,c,h1,h2,h3⟩:=h;refine ⟨a,c,h1,h2,λhp=>?_⟩;obtain ⟨g,o,ha,hn,hg,hu,hr⟩:=h3 hp;have hh:=hk.keep g hg λht=>hn (yy ht)
  refine ⟨g,o,ha,λhn'=>hn (hN.ln hg hn'),Nat.lt_of_lt_of_le hg hk.size,hu.keep hg hh hN,λi hi=>?_⟩;obtain ⟨es,e1,e2,e3⟩:=hr i hi;exact ⟨es,e1,ze (hk.keep g hg λht=>hn (yy ht)) e2,RelD.keep hk hN e3⟩
 | .unit,_,_,h=>h
 | .pair a b,_,_,h=>by
  simp only [RelD] at h ⊢;obtain ⟨xs,ys,h0,h1,h2⟩:=h;exact ⟨xs,ys,h0,RelD.keep hk hN h1,RelD.keep hk hN h2⟩
 | .ln t,_,_,h=>by
  simp only [RelD] at h ⊢;exact RelD.keep hk hN h
 | .rg t,_,_,h=>by
  simp only [RelD] at h ⊢;exact RelD.keep hk hN h
 | .pt t,x,vs,h=>by
  simp only [RelD] at h ⊢;obtain ⟨p,rfl,h | ⟨g,o,y,es,h1,h2,h3,h4,h5,h6,h7,h8,h9⟩⟩:=h
  ·exact ⟨p,rfl,.inl h⟩
  have hh:=hk.keep g h5 λht=>h4 (yy ht)
  exact ⟨p,rfl,.inr ⟨g,o,y,es,h1,h2,h3,λhn=>h4 (hN.ln h5 hn),Nat.lt_of_lt_of_le h5 hk.size,h6.keep h5 hh hN,h7,ze hh h8,RelD.keep hk hN h9⟩⟩
 | .mp k v ag,l,vs,h=>by
  simp only [RelD] at h ⊢;obtain ⟨a,rfl,g,es,c,h1,h2,h3,h4,h5,h6,h7⟩:=h;have hh:=hk.keep g h3 λht=>h2 (yy ht)
  refine ⟨a,rfl,⟨g,es,c,h1,λhn=>h2 (hN.ln h3 hn),Nat.lt_of_lt_of_le h3 hk.size,by rw [hh];exact h4,h5,h6,λi hi hi'=>?_⟩⟩;obtain ⟨r1,cs,r2,r3⟩:=h7 i hi hi';exact ⟨RelD.keep hk hN r1,cs,RelD.keep hk hN r2,r3⟩
 | .mx u,p,vs,h=>by
  simp only [RelD] at h ⊢;exact ⟨h.1,RelD.keep (N:=N.low) hk hN.low h.2.1,λhp=>RelD.keep hk hN (h.2.2 hp)⟩
theorem cast_get {α β:Type} (h:α=β) (l:List α) (h':List α=List β) (i:Nat) (h1:i<(cast h' l).length) (h2:i<l.length):(cast h' l)[i]=cast h l[i]:=by
 cases h;rfl
theorem cast_len {α β:Type} (h:α=β) (l:List α) (h':List α=List β):(cast h' l).length=l.length:=by
 cases h;rfl
theorem tZ {α β γ δ:Type} (h1:α=β) (h2:γ=δ) (p:α×γ) (h:(α×γ)=(β×δ)):cast h p=(cast h1 p.1,cast h2 p.2):=by
 cases h1;cases h2;rfl
theorem y3 (t:Ty):t.inn.size=t.size:=by
 induction t with
 | pair a b iha ihb=>simp only [Ty.inn,Ty.size,iha,ihb]
 | ln t ih=>simp only [Ty.inn,Ty.size,ih]
 | rg t ih=>simp only [Ty.inn,Ty.size,ih]
 | _=>rfl
theorem cast_opt {α β:Type} (h:α=β) (x:Option α) (h':Option α=Option β):cast h' x=Option.map (cast h) x:=by
 cases h;cases x <;> rfl
theorem cast_ents {α β γ:Type} (h:α=β) (l:List (γ×α)) (h':List (γ×α)=List (γ×β)):cast h' l=List.map (λe=>(e.1,cast h e.2)) l:=by
 cases h;show l=List.map (λe=>(e.1,e.2)) l;simp
theorem RelD.inn {w:World} {N:NN}:∀ {t:Ty} {x:t.den} {vs:List Value},RelD w N t x vs->RelD w N t.inn (cast t.den_inn.symm x) vs
 | .int _,_,_,h=>h
 | .u8,_,_,h=>h
 | .bool,_,_,h=>h
 | .str,_,_,h=>h
 | .unit,_,_,h=>h
 | .sl t,l,vs,h=>by
  simp only [RelD] at h;obtain ⟨a,c,h1,h2,h3⟩:=h;have hl:(cast (Ty.den_inn (.sl t)).symm l:List t.inn.den).length=l.length:=cast_len t.den_inn.symm l _;simp only [Ty.inn,RelD];refine ⟨a,c,by rw [h1];congr 2;exact hl.symm,by rw [show List.length _=_ from hl];exact h2,λhp=>?_⟩;obtain ⟨g,o,ha,hn,hg,hu,hr⟩:=h3 (by rw [<- hl];exact hp)
  have hsz:∀ t:Ty,t.inn.size=t.size:=λt=>by
   induction t with
   | pair a b iha ihb=>simp only [Ty.inn,Ty.size,iha,ihb]
   | ln t ih=>simp only [Ty.inn,Ty.size,ih]
   | rg t ih=>simp only [Ty.inn,Ty.size,ih]
   | _=>rfl
  refine ⟨g,o,ha,λht=>hn (yy ht),hg,by rw [show List.length _=_ from hl];simp only [Ty.size];rw [hsz];exact hu,λi hi=>?_⟩;obtain ⟨es,e1,e2,e3⟩:=hr i (by rw [<- hl];exact hi);refine ⟨es,by simp only [Ty.size];rw [hsz];exact e1,by simp only [Ty.size];rw [hsz];exact e2,?_⟩
  have:=RelD.inn e3
  rw [show (cast (Ty.den_inn (.sl t)).symm l:List t.inn.den)[i]=cast t.den_inn.symm l[i] from cast_get t.den_inn.symm l _ i hi (by rw [<- hl];exact hi)];exact this
 | .pair a b,p,vs,h=>by
  simp only [RelD] at h;obtain ⟨xs,ys,h0,h1,h2⟩:=h;simp only [Ty.inn,RelD];have e:=tZ a.den_inn.symm b.den_inn.symm p (Ty.den_inn (.pair a b)).symm;refine ⟨xs,ys,h0,?_,?_⟩
  ·rw [show (cast (Ty.den_inn (.pair a b)).symm p:a.inn.den×b.inn.den).1=cast a.den_inn.symm p.1 by rw [e]];exact RelD.inn h1
  ·rw [show (cast (Ty.den_inn (.pair a b)).symm p:a.inn.den×b.inn.den).2=cast b.den_inn.symm p.2 by rw [e]];exact RelD.inn h2
 | .ln t,x,vs,h=>by
  simp only [RelD] at h;simp only [Ty.inn];exact RelD.inn h
 | .rg t,x,vs,h=>by
  simp only [RelD] at h;simp only [Ty.inn];exact RelD.inn h
 | .pt t,x,vs,h=>by
  simp only [RelD] at h;obtain ⟨p,h1,h2⟩:=h;have hsz:=y3 t;have e0:(cast (Ty.den_inn (.pt t)).symm x:Option t.inn.den)=Option.map (cast t.den_inn.symm) x:=cast_opt t.den_inn.symm x _;simp only [Ty.inn,RelD];refine ⟨p,h1,?_⟩;rw [show (cast (Ty.den_inn (.pt t)).symm x:Option (Ty.ln t.inn).den)=Option.map (cast t.den_inn.symm) x from e0];rcases h2 with ⟨h2,h3⟩ | ⟨g,o,y,es,h2,h3,h4,h5,h6,h7,h8,h9,h10⟩
  ·exact .inl ⟨by rw [Option.isSome_map];exact h2,h3⟩
  ·refine .inr ⟨g,o,cast t.den_inn.symm y,es,by rw [Option.isSome_map];exact h2,?_,h4,λht=>h5 (yy ht),h6,by simp only [Ty.size];rw [hsz];exact h7,by simp only [Ty.size];rw [hsz];exact h8,h9,RelD.inn h10⟩
   cases x with
   | none=>cases h2
   | some x=>simp only [Option.map_some,Option.getD_some] at h3 ⊢; rw [h3]
 | .mp k v ag,l,vs,h=>by
  simp only [RelD] at h;obtain ⟨a,h1,g,es,c,h2,h3,h4,h5,h6,h7,h8⟩:=h;have e0:(cast (Ty.den_inn (.mp k v ag)).symm l:List (k.den×v.inn.den))=List.map (λe=>(e.1,cast v.den_inn.symm e.2)) l:=cast_ents v.den_inn.symm l _;simp only [Ty.inn,RelD];rw [show (cast (Ty.den_inn (.mp k v ag)).symm l:List (k.den×(Ty.ln v.inn).den))=List.map (λe=>(e.1,cast v.den_inn.symm e.2)) l from e0];refine ⟨a,h1,g,es,c,h2,λht=>h3 (yy ht),h4,h5,h6,by rw [List.length_map];exact h7,λi hi hi'=>?_⟩;rw [List.length_map] at hi;obtain ⟨r1,cs,r2,r3⟩:=h8 i hi hi';rw [List.getElem_map];exact ⟨r1,cs,RelD.inn r2,r3⟩
 | .mx _,_,_,h=>h
def room (w:World) (g n:Nat):Prop:=∀ k,k<n->(w.cell? ⟨g,k,none⟩).isSome=true/\w.frozen? ⟨g,k,none⟩=false
def live (H:Nat->Blk) (b:Nat):Prop:=H b≠.dead
def wy (μ:Nat->Option Nat) (H:Nat->Blk) (g:Nat):Prop:=∃ b,H b≠.dead/\μ b=some g
structure Tb where
 tab:World->Prop
 out:Nat->Prop
 stays:∀ w w',(∀ g,out g->w'.heap[g]?=w.heap[g]?)->tab w->tab w'
 lt:∀ w g,tab w->out g->g<w.heap.size
structure Frm (T:Tb) where
 out:Nat->Prop
 hot:Nat->Prop:=out
 le:∀ g,hot g->out g:=by exact λ_ h=>h
 reg:Nat->Prop:=λ_=>False
 unf:Nat->Prop:=λ_=>False
instance {T:Tb}:CoeFun (Frm T) λ_=>Nat->Prop:=⟨Frm.out⟩
def Not {T:Tb} (F:Frm T) (μ:Nat->Option Nat) (H:Nat->Blk):NN:=⟨λg=>F g\/wy μ H g,λg=>F.hot g\/wy μ H g,λg h=>h.imp (F.le g) id,F.reg,F.unf⟩
theorem Keep.hot {T:Tb} {F:Frm T} {μ:Nat->Option Nat} {H:Nat->Blk} {w w':World} (h:Keep (wy μ H) w w'):Keep (Not F μ H).trk w w':=⟨h.size,λg hg hn=>h.keep g hg λht=>hn (.inr ht)⟩
theorem Sub.ofTrk {T:Tb} {F:Frm T} {w:World} {μ μ':Nat->Option Nat} {H H':Nat->Blk} (h:∀ g,g<w.heap.size->wy μ' H' g->wy μ H g):Sub w (Not F μ' H') (Not F μ H) :=
 ⟨λg hg hN=>hN.imp id (h g hg),λg hg hN=>hN.imp id (h g hg),λ_ _ h=>h,λ_ _ h=>h⟩
mutual
def zA (w:World) (N:NN) (μ:Nat->Option Nat) (H:Nat->Blk):AV->Value->Prop
 | .i k n,v=>v=.int k n
 | .u x,v=>v=.int .u8 (x.toNat:Int)
 | .b x,v=>v=.bool x
 | .kb x,v=>v=.bool x
 | .s x,v=>v=.string ⟨x.toArray⟩
 | .c u,v=>v=u
 | .sl t l,v=>RelD w N (.sl t) l [v]
 | .fp t l ix f,v=>ix<l.length/\∃ g o,¬ lnN N t g/\g<w.heap.size/\v=.pointer (some ⟨g,o+ix*t.size+f,none⟩) /\
   ∃ es,es.length=t.size/\rowAt w g (o+ix*t.size) es/\∃ h:ix<l.length,RelD w N t l[ix] es/\Unf w N g (o+ix*t.size) t.size
 | .ptr b o,v=>H b≠.dead/\∃ g,μ b=some g/\v=.pointer (some ⟨g,o,none⟩)
 | .ep b t ix f,v=>∃ l g,H b=.data t l/\ix<l.length/\μ b=some g/\v=.pointer (some ⟨g,ix*t.size+f,none⟩)
 | .wh b,v=>∃ t l,H b=.data t l/\((∃ g c,μ b=some g/\v=.slice (some ⟨g,0,none⟩) l.length c/\l.length<=c/\room w g (c*t.size)) \/
   (μ b=none/\l=[]/\v=.slice none 0 0))
 | .win b lo n,v=>∃ t l,H b=.data t l/\lo+n<=l.length/\((∃ g c o,μ b=some g/\v=.slice (some ⟨g,o,none⟩) n (c-lo)/\l.length<=c/\room w g (c*t.size) /\
   (o=lo*t.size\/(c=lo/\o<=lo*t.size)))\/(μ b=none/\l=[]/\v=.slice none 0 0))
 | .mp b,v=>H b≠.dead/\∃ g,μ b=some g/\v=.map (some g)
 | .mptr c b o,v=>H b≠.dead/\((c=true/\∃ g,μ b=some g/\v=.pointer (some ⟨g,o,none⟩))\/(c=false/\v=.pointer none))
 | .fn f cs,v=>∃ vs:List Value,v=.func (.func f) #[] vs.toArray/\zC w N μ H cs vs
 | .agg cs,v=>∃ vs:List Value,v=.agg vs.toArray/\zC w N μ H cs vs
 | .tup cs,v=>∃ vs:List Value,v=.tuple vs.toArray/\zC w N μ H cs vs
 | .ifc t x,v=>∃ val,v=.iface t val/\zA w N μ H x val
 | .pan x,v=>zA w N μ H x v
 | .lit x u,v=>v=u/\zA w N μ H x v
 | .fz t x,v=>RelD w N t x [v]/\notAgg v=true
 | .gd _ _ _,_=>True
 | .bad,_=>True
def zC (w:World) (N:NN) (μ:Nat->Option Nat) (H:Nat->Blk):List AV->List Value->Prop
 | [],vs=>vs=[]
 | x::r,vs=>∃ v vr,vs=v::vr/\zA w N μ H x v/\zC w N μ H r vr
end
def RelM (w:World) (N:NN) (kt vt:Ty) (ag:Bool) (l:List (kt.den×vt.den)) (es:List MapEntry):Prop :=
 es.length=l.length/\∀ i,(h:i<l.length)->(h':i<es.length)->RelD w N kt l[i].1 [es[i].key]/\∃ cs,RelD w N vt l[i].2 cs/\IsVal ag cs es[i].val
theorem RelM.keep {w w':World} {N N':NN} (hk:Keep N.trk w w') (hN:Sub w N' N) {kt vt:Ty} {ag:Bool} {l:List (kt.den×vt.den)} {es:List MapEntry} (h:RelM w N kt vt ag l es):RelM w' N' kt vt ag l es :=
 ⟨h.1,λi h1 h2=>by
  obtain ⟨r1,cs,r2,r3⟩:=h.2 i h1 h2
  exact ⟨r1.keep hk hN,cs,r2.keep hk hN,r3⟩⟩
def za (w:World) (N:NN) (μ:Nat->Option Nat) (H:Nat->Blk) (b:Nat):Blk->Prop
 | .dead=>True
 | .vars cs=>μ b=none\/∃ g vs,μ b=some g/\zC w N μ H cs vs/\rowAt w g 0 vs/\room w g vs.length
 | .data t l=>(μ b=none/\l=[])\/∃ g,μ b=some g/\room w g (l.length*t.size) /\
   ∀ i,(h:i<l.length)->∃ es,es.length=t.size/\rowAt w g (i*t.size) es/\RelD w N t (l[i]'h) es
 | .iter s pos=>∃ g,μ b=some g/\w.heap[g]?=some (.stringIter ⟨s.toArray⟩ pos)
 | .mapd kt vt ag l=>μ b=none\/∃ g es c,μ b=some g/\w.heap[g]?=some (.map es c)/\MapKept.Stamped es c/\RelM w N kt vt ag l es.toList
def Pin (B' B:Blk) (m' m:Option Nat):Prop:=B'.tag≠0->B.tag=B'.tag/\m'=m
theorem Pin.refl (B:Blk) (m:Option Nat):Pin B B m m:=λ_=>⟨rfl,rfl⟩
theorem Pin.zero {B' B:Blk} {m' m:Option Nat} (h:B'.tag=0):Pin B' B m' m:=λh'=>absurd h h'
theorem Pin.trans {B'' B' B:Blk} {m'' m' m:Option Nat} (h:Pin B'' B' m'' m') (h':Pin B' B m' m):Pin B'' B m'' m:=λht=>by
 obtain ⟨h1,h2⟩:=h ht;obtain ⟨h3,h4⟩:=h' (by rw [h1];exact ht);exact ⟨h3.trans h1,h2.trans h4⟩
theorem Blk.tag_vars {B:Blk} (h:B.tag=1):∃ cs,B=.vars cs:=by
 cases B <;> simp [Blk.tag] at h ⊢
theorem Pin.vars {cs':List AV} {B:Blk} {m' m:Option Nat} (h:Pin (.vars cs') B m' m):(∃ cs,B=.vars cs)/\m'=m:=by
 obtain ⟨h1,h2⟩:=h (by simp [Blk.tag]);exact ⟨Blk.tag_vars h1,h2⟩
def unm:Blk->Bool
 | .data t _=>decide (t≠.u8)
 | _=>false
def NoMark (w:World) (g:Nat):Prop:=∀ c e m,w.heap[g]?=some (.cells c e m)->m.1<=m.2/\¬ (m.1<=c.size/\c.size<m.2)
theorem NoMark.of_heap {w w':World} {g:Nat} (h:w'.heap[g]?=w.heap[g]?) (hm:NoMark w g):NoMark w' g:=λc e m hc=>hm c e m (by rw [<- h];exact hc)
def Wfm (w:World) (g:Nat):Prop:=∀ c e m,w.heap[g]?=some (.cells c e m)->m.1<=m.2
theorem NoMark.wfm {w:World} {g:Nat} (h:NoMark w g):Wfm w g:=λc e m hc=>(h c e m hc).1
theorem Wfm.of_heap {w w':World} {g:Nat} (h:w'.heap[g]?=w.heap[g]?) (hm:Wfm w g):Wfm w' g:=λc e m hc=>hm c e m (by rw [<- h];exact hc)
structure Hp {T:Tb} (F:Frm T) (μ:Nat->Option Nat) (H:Nat->Blk) (nx:Nat) (w:World):Prop where
 blk:∀ b,za w (Not F μ H) μ H b (H b)
 lt:∀ b g,H b≠.dead->μ b=some g->g<w.heap.size
 inj:∀ b b' g,H b≠.dead->H b'≠.dead->μ b=some g->μ b'=some g->b=b'
 dead:∀ b,nx<=b->H b=.dead
 apart:∀ b g,H b≠.dead->μ b=some g->¬ F g
 flt:∀ g,F g->g<w.heap.size
 tab:T.tab w
 tapart:∀ b g,H b≠.dead->μ b=some g->¬ T.out g
 mark:∀ b g,unm (H b)=true->μ b=some g->NoMark w g
 wfm:∀ b g,H b≠.dead->μ b=some g->Wfm w g
def RelG (w:World) (N:NN) (μ:Nat->Option Nat) (H:Nat->Blk) (ρ:Operand->Value):AV->Value->Prop
 | .gd j b x,v=>ρ (.tmp j)=.bool b->zA w N μ H x v
 | x,v=>zA w N μ H x v
def RelE (w:World) (N:NN) (μ:Nat->Option Nat) (H:Nat->Blk) (E:Nat->AV) (tmps:Array Value):Prop :=
 ∀ t,match E t with
  | .gd j b x=>(tmps.getD j undef=.bool b/\zA w N μ H x (tmps.getD t undef))\/(tmps.getD j undef≠.bool b/\tmps.getD t undef=undef)
  | x=>zA w N μ H x (tmps.getD t undef)
theorem yU {w:World} {N:NN} {μ:Nat->Option Nat} {H:Nat->Blk}:∀ {cs:List AV} {vs:List Value},zC w N μ H cs vs->vs.length=cs.length
 | [],_,h=>by simp only [zC] at h;simp [h]
 | _::r,_,h=>by
  simp only [zC] at h;obtain ⟨v,vr,rfl,_,h2⟩:=h;simp [yU h2]
theorem x7 {w:World} {N:NN} {μ:Nat->Option Nat} {H:Nat->Blk}:∀ {cs ds:List AV} {vs us:List Value},zC w N μ H cs vs->zC w N μ H ds us->zC w N μ H (cs++ds) (vs++us)
 | [],_,_,_,h,h'=>by simp only [zC] at h;subst h;simpa using h'
 | _::r,_,_,_,h,h'=>by
  simp only [zC] at h;obtain ⟨v,vr,rfl,h1,h2⟩:=h;simp only [List.cons_append,zC];exact ⟨v,_,rfl,h1,x7 h2 h'⟩
theorem xu {w:World} {N:NN} {μ:Nat->Option Nat} {H:Nat->Blk}:∀ (n:Nat) {cs:List AV} {vs:List Value},zC w N μ H cs vs->zC w N μ H (cs.drop n) (vs.drop n)
 | 0,_,_,h=>by simpa using h
 | n+1,[],_,h=>by simp only [zC] at h;subst h;simp [zC]
 | n+1,_::r,_,h=>by
  simp only [zC] at h;obtain ⟨v,vr,rfl,h1,h2⟩:=h;simpa using xu n h2
theorem vL {w:World} {N:NN} {μ:Nat->Option Nat} {H:Nat->Blk}:∀ (n:Nat) {cs:List AV} {vs:List Value},zC w N μ H cs vs->zC w N μ H (cs.take n) (vs.take n)
 | 0,_,_,h=>by simp [zC]
 | n+1,[],_,h=>by simp only [zC] at h;subst h;simp [zC]
 | n+1,_::r,_,h=>by
  simp only [zC] at h;obtain ⟨v,vr,rfl,h1,h2⟩:=h;simp only [List.take_succ_cons,zC];exact ⟨v,_,rfl,h1,vL n h2⟩
theorem RelVs_get {w:World} {N:NN} {μ:Nat->Option Nat} {H:Nat->Blk}:∀ {cs:List AV} {vs:List Value} (n:Nat) {x:AV},zC w N μ H cs vs->cs[n]?=some x->∃ v,vs[n]?=some v/\zA w N μ H x v
 | [],_,n,x,_,h=>by simp at h
 | c::r,_,0,x,h,h'=>by
  simp only [zC] at h;obtain ⟨v,vr,rfl,h1,h2⟩:=h;simp at h';subst h';exact ⟨v,by simp,h1⟩
 | c::r,_,n+1,x,h,h'=>by
  simp only [zC] at h;obtain ⟨v,vr,rfl,h1,h2⟩:=h;simp at h';simpa using RelVs_get n h2 h'
theorem RelD.lowInn {w:World} {N:NN}:∀ {t:Ty} {x:t.den} {vs:List Value},clT t=true->RelD w N.low t x vs->RelD w N t.inn (cast t.den_inn.symm x) vs
 | .int _,_,_,_,h=>h
 | .u8,_,_,_,h=>h
 | .bool,_,_,_,h=>h
 | .str,_,_,_,h=>h
 | .unit,_,_,_,h=>h
 | .ln _,_,_,hc,_=>by cases hc
 | .rg _,_,_,hc,_=>by cases hc
 | .pt _,_,_,hc,_=>by cases hc
 | .mp _ _ _,_,_,hc,_=>by cases hc
 | .mx _,_,_,hc,_=>by cases hc
 | .sl t,l,vs,hc,h=>by
  simp only [clT] at hc;simp only [RelD] at h;obtain ⟨a,c,h1,h2,h3⟩:=h;have hl:(cast (Ty.den_inn (.sl t)).symm l:List t.inn.den).length=l.length:=cast_len t.den_inn.symm l _;simp only [Ty.inn,RelD];refine ⟨a,c,by rw [h1];congr 2;exact hl.symm,by rw [show List.length _=_ from hl];exact h2,λhp=>?_⟩;obtain ⟨g,o,ha,hn,hg,hu,hr⟩:=h3 (by rw [<- hl];exact hp);refine ⟨g,o,ha,λht=>hn (yy (N:=N.low) ht),hg,by rw [show List.length _=_ from hl];simp only [Ty.size];rw [y3];exact hu,λi hi=>?_⟩;obtain ⟨es,e1,e2,e3⟩:=hr i (by rw [<- hl];exact hi);refine ⟨es,by simp only [Ty.size];rw [y3];exact e1,by simp only [Ty.size];rw [y3];exact e2,?_⟩
  have:=RelD.lowInn hc e3
  rw [show (cast (Ty.den_inn (.sl t)).symm l:List t.inn.den)[i]=cast t.den_inn.symm l[i] from cast_get t.den_inn.symm l _ i hi (by rw [<- hl];exact hi)];exact this
 | .pair a b,p,vs,hc,h=>by
  simp only [clT,yR] at hc;simp only [RelD] at h;obtain ⟨xs,ys,h0,h1,h2⟩:=h;simp only [Ty.inn,RelD];have e:=tZ a.den_inn.symm b.den_inn.symm p (Ty.den_inn (.pair a b)).symm;refine ⟨xs,ys,h0,?_,?_⟩
  ·rw [show (cast (Ty.den_inn (.pair a b)).symm p:a.inn.den×b.inn.den).1=cast a.den_inn.symm p.1 by rw [e]];exact RelD.lowInn hc.1 h1
  ·rw [show (cast (Ty.den_inn (.pair a b)).symm p:a.inn.den×b.inn.den).2=cast b.den_inn.symm p.2 by rw [e]];exact RelD.lowInn hc.2 h2
theorem lnN_cl {t:Ty} (h:clT t=true) (N:NN):lnN N t=N.all:=by
 cases t <;> first | rfl | cases h
theorem RelD.innLow {w:World} {N:NN}:∀ {t:Ty} {x:t.inn.den} {vs:List Value},clT t=true->RelD w N t.inn x vs->RelD w N.low t (cast t.den_inn x) vs
 | .int _,_,_,_,h=>h
 | .u8,_,_,_,h=>h
 | .bool,_,_,_,h=>h
 | .str,_,_,_,h=>h
 | .unit,_,_,_,h=>h
 | .ln _,_,_,hc,_=>by cases hc
 | .rg _,_,_,hc,_=>by cases hc
 | .pt _,_,_,hc,_=>by cases hc
 | .mp _ _ _,_,_,hc,_=>by cases hc
 | .mx _,_,_,hc,_=>by cases hc
 | .sl t,l,vs,hc,h=>by
  simp only [clT] at hc;simp only [Ty.inn,RelD] at h;obtain ⟨a,c,h1,h2,h3⟩:=h;have hl:(cast (Ty.den_inn (.sl t)) l:List t.den).length=List.length l:=cast_len t.den_inn l _;simp only [RelD];refine ⟨a,c,by rw [h1];congr 2;exact hl.symm,by rw [show List.length _=_ from hl];exact h2,λhp=>?_⟩;obtain ⟨g,o,ha,hn,hg,hu,hr⟩:=h3 (by rw [<- hl];exact hp);simp only [Ty.size] at hu hr;rw [y3] at hu hr;refine ⟨g,o,ha,λht=>hn (by rw [lnN_cl hc] at ht;exact ht),hg,by rw [show List.length _=_ from hl];exact hu,λi hi=>?_⟩;obtain ⟨es,e1,e2,e3⟩:=hr i (by rw [<- hl];exact hi);refine ⟨es,e1,e2,?_⟩
  have:=RelD.innLow hc e3
  have e:(cast (Ty.den_inn (.sl t)) l:List t.den)[i]=cast t.den_inn ((show List t.inn.den from l)[i]'(by rw [<- hl];exact hi)):=cast_get t.den_inn (show List t.inn.den from l) _ i hi (by rw [<- hl];exact hi);rw [e];exact this
 | .pair a b,p,vs,hc,h=>by
  simp only [clT,yR] at hc;simp only [Ty.inn,RelD] at h;obtain ⟨xs,ys,h0,h1,h2⟩:=h;simp only [RelD];have e:(cast (Ty.den_inn (.pair a b)) p:a.den×b.den)=(cast a.den_inn (show a.inn.den×b.inn.den from p).1,cast b.den_inn (show a.inn.den×b.inn.den from p).2):=tZ a.den_inn b.den_inn (show a.inn.den×b.inn.den from p) (Ty.den_inn (.pair a b));refine ⟨xs,ys,h0,?_,?_⟩
  ·rw [e];exact RelD.innLow hc.1 h1
  ·rw [e];exact RelD.innLow hc.2 h2
theorem RelD.low {w:World} {N:NN} {t:Ty} {x:t.den} {vs:List Value} (h:RelD w N t x vs):RelD w N.low t x vs :=
 h.keep (N:=N) ⟨Nat.le_refl _,λ_ _ _=>rfl⟩ Sub.lowIn
theorem RelVs_encLn {w:World} {N:NN} {μ:Nat->Option Nat} {H:Nat->Blk}:∀ {t:Ty} {x:t.den} {vs:List Value},clT t=true->RelD w N.low t x vs->zC w N μ H (w8 t x) vs
 | .int k,n,_,_,h=>by simp only [RelD] at h;subst h;simp [w8,zC,zA]
 | .u8,n,_,_,h=>by simp only [RelD] at h;subst h;simp [w8,zC,zA]
 | .bool,n,_,_,h=>by simp only [RelD] at h;subst h;simp [w8,zC,zA]
 | .str,n,_,_,h=>by simp only [RelD] at h;subst h;simp [w8,zC,zA]
 | .sl t,l,vs,hc,h=>by
  have h1:=RelD.lowInn (t:=.sl t) hc h;simp only [RelD] at h;obtain ⟨a,c,rfl,_⟩:=h;simp only [w8,zC,zA];exact ⟨_,_,rfl,h1,rfl⟩
 | .unit,n,_,_,h=>by simp only [RelD] at h;subst h;simp [w8,zC]
 | .pair a b,p,_,hc,h=>by
  simp only [clT,yR] at hc;simp only [RelD] at h;obtain ⟨xs,ys,rfl,h1,h2⟩:=h;exact x7 (RelVs_encLn hc.1 h1) (RelVs_encLn hc.2 h2)
 | .ln _,_,_,hc,_=>by cases hc
 | .rg _,_,_,hc,_=>by cases hc
 | .pt _,_,_,hc,_=>by cases hc
 | .mp _ _ _,_,_,hc,_=>by cases hc
 | .mx _,_,_,hc,_=>by cases hc
theorem ya {w:World} {N:NN} {μ:Nat->Option Nat} {H:Nat->Blk}:∀ {t:Ty} {x:t.den} {vs:List Value},RelD w N t x vs->zC w N μ H (x5 t x) vs
 | .int k,n,_,h=>by simp only [RelD] at h;subst h;simp [x5,zC,zA]
 | .u8,n,_,h=>by simp only [RelD] at h;subst h;simp [x5,zC,zA]
 | .bool,n,_,h=>by simp only [RelD] at h;subst h;simp [x5,zC,zA]
 | .str,n,_,h=>by simp only [RelD] at h;subst h;simp [x5,zC,zA]
 | .sl t,l,vs,h=>by
  have h':=h;simp only [RelD] at h';obtain ⟨a,c,rfl,_⟩:=h';simp only [x5,zC,zA];exact ⟨_,_,rfl,h,rfl⟩
 | .unit,n,_,h=>by simp only [RelD] at h;subst h;simp [x5,zC]
 | .pair a b,p,_,h=>by
  simp only [RelD] at h;obtain ⟨xs,ys,rfl,h1,h2⟩:=h;exact x7 (ya h1) (ya h2)
 | .ln t,_,_,h=>by
  simp only [RelD] at h;simp only [x5];exact ya h
 | .rg t,_,_,h=>by
  simp only [RelD] at h;simp only [x5];exact ya h
 | .pt t,x,vs,h=>by
  have h':=h;simp only [RelD] at h';obtain ⟨_,rfl,_⟩:=h';simp only [x5,zC,zA];exact ⟨_,_,rfl,⟨h,rfl⟩,rfl⟩
 | .mp k v ag,x,vs,h=>by
  have h':=h;simp only [RelD] at h';obtain ⟨_,rfl,_⟩:=h';simp only [x5,zC,zA];exact ⟨_,_,rfl,⟨h,rfl⟩,rfl⟩
 | .mx u,x,vs,h=>by
  simp only [RelD] at h;simp only [x5];exact RelVs_encLn h.1 h.2.1
theorem isNilPtr_eq {u:Value} (h:wl u=true):u=.pointer none:=by
 unfold wl at h;split at h
 ·rfl
 ·cases h
theorem decLn_ok {w:World} {N:NN} {μ:Nat->Option Nat} {H:Nat->Blk} {α:Type} {r:α} :
  ∀ {t:Ty} {cs:List AV} {vs:List Value} {K:t.den->List AV->Option α},zC w N μ H cs vs->clT t=true->w9 t cs K=some r ->
   ∃ x rest es us,K x rest=some r/\vs=es++us/\RelD w N.low t x es/\zC w N μ H rest us
 | .int k,cs,vs,K,h,hc,he=>by
  cases cs with
  | nil=>simp [w9] at he
  | cons c cs =>
   cases c <;> simp only [w9,reduceCtorEq] at he;rename_i k' n;simp only [zC,zA] at h;obtain ⟨v,vr,rfl,rfl,h2⟩:=h;by_cases hk:k'=k
   ·subst hk;simp at he;exact ⟨n,cs,[.int k' n],vr,he,rfl,rfl,h2⟩
   ·simp [hk] at he
 | .u8,cs,vs,K,h,hc,he=>by
  cases cs with
  | nil=>simp [w9] at he
  | cons c cs =>
   cases c <;> simp only [w9,reduceCtorEq] at he;simp only [zC,zA] at h;obtain ⟨v,vr,rfl,rfl,h2⟩:=h;exact ⟨_,cs,[_],vr,he,rfl,rfl,h2⟩
 | .bool,cs,vs,K,h,hc,he=>by
  cases cs with
  | nil=>simp [w9] at he
  | cons c cs =>
   cases c <;> simp only [w9,reduceCtorEq] at he
   all_goals
    simp only [zC,zA] at h;obtain ⟨v,vr,rfl,rfl,h2⟩:=h;exact ⟨_,cs,[_],vr,he,rfl,rfl,h2⟩
 | .str,cs,vs,K,h,hc,he=>by
  cases cs with
  | nil=>simp [w9] at he
  | cons c cs =>
   cases c <;> simp only [w9,reduceCtorEq] at he;simp only [zC,zA] at h;obtain ⟨v,vr,rfl,rfl,h2⟩:=h;exact ⟨_,cs,[_],vr,he,rfl,rfl,h2⟩
 | .sl t,cs,vs,K,h,hc,he=>by
  cases cs with
  | nil=>simp [w9] at he
  | cons c cs =>
   cases c with
   | sl t' l =>
    simp only [w9] at he;split at he
    ·rename_i ht;subst ht;simp only [zC,zA] at h;obtain ⟨v,vr,rfl,h1,h2⟩:=h;exact ⟨_,cs,[v],vr,he,rfl,RelD.innLow (t:=.sl t) hc h1,h2⟩
    ·split at he
     ·rename_i ht;subst ht;simp only [zC,zA] at h;obtain ⟨v,vr,rfl,h1,h2⟩:=h;exact ⟨l,cs,[v],vr,he,rfl,RelD.low h1,h2⟩
     ·cases he
   | c u =>
    simp only [zC,zA] at h;obtain ⟨v,vr,rfl,rfl,h2⟩:=h;unfold w9 at he;split at he
    all_goals (rename_i e1 e2 e3 <;> first | (cases e1;done) | (cases e1;cases e2;done) | skip)
    all_goals first | contradiction | skip
    rename_i e1 e2 e3 _
    cases e1
    cases e2
    cases e3;exact ⟨[],_,[.slice none 0 0],vr,he,rfl,⟨none,0,rfl,Nat.le_refl _,λhp=>absurd hp (by simp)⟩,h2⟩
   | _=>simp [w9] at he
 | .unit,cs,vs,K,h,hc,he=>by
  simp only [w9] at he;exact ⟨(),cs,[],vs,he,rfl,rfl,h⟩
 | .pair a b,cs,vs,K,h,hc,he=>by
  simp only [w9] at he;simp only [clT,yR] at hc;obtain ⟨x,rest,es,us,h1,h2,h3,h4⟩:=decLn_ok h hc.1 he;obtain ⟨y,rest',es',us',g1,g2,g3,g4⟩:=decLn_ok h4 hc.2 h1;exact ⟨(x,y),rest',es++es',us',g1,by rw [h2,g2,lAs],⟨es,es',rfl,h3,g3⟩,g4⟩
 | .ln _,_,_,_,_,hc,_=>by cases hc
 | .rg _,_,_,_,_,hc,_=>by cases hc
 | .pt _,_,_,_,_,hc,_=>by cases hc
 | .mp _ _ _,_,_,_,_,hc,_=>by cases hc
 | .mx _,_,_,_,_,hc,_=>by cases hc
theorem uS {w:World} {N:NN} {μ:Nat->Option Nat} {H:Nat->Blk} {α:Type} {r:α} :
  ∀ {t:Ty} {cs:List AV} {vs:List Value} {K:t.den->List AV->Option α},zC w N μ H cs vs->tH t cs K=some r ->
   ∃ x rest es us,K x rest=some r/\vs=es++us/\RelD w N t x es/\zC w N μ H rest us
 | .int k,cs,vs,K,h,he=>by
  cases cs with
  | nil=>simp [tH] at he
  | cons c cs =>
   cases c <;> simp only [tH,reduceCtorEq] at he;rename_i k' n;simp only [zC,zA] at h;obtain ⟨v,vr,rfl,rfl,h2⟩:=h;by_cases hk:k'=k
   ·subst hk;simp at he;exact ⟨n,cs,[.int k' n],vr,he,rfl,rfl,h2⟩
   ·simp [hk] at he
 | .u8,cs,vs,K,h,he=>by
  cases cs with
  | nil=>simp [tH] at he
  | cons c cs =>
   cases c <;> simp only [tH,reduceCtorEq] at he;simp only [zC,zA] at h;obtain ⟨v,vr,rfl,rfl,h2⟩:=h;exact ⟨_,cs,[_],vr,he,rfl,rfl,h2⟩
 | .bool,cs,vs,K,h,he=>by
  cases cs with
  | nil=>simp [tH] at he
  | cons c cs =>
   cases c <;> simp only [tH,reduceCtorEq] at he
   all_goals
    simp only [zC,zA] at h;obtain ⟨v,vr,rfl,rfl,h2⟩:=h;exact ⟨_,cs,[_],vr,he,rfl,rfl,h2⟩
 | .str,cs,vs,K,h,he=>by
  cases cs with
  | nil=>simp [tH] at he
  | cons c cs =>
   cases c <;> simp only [tH,reduceCtorEq] at he;simp only [zC,zA] at h;obtain ⟨v,vr,rfl,rfl,h2⟩:=h;exact ⟨_,cs,[_],vr,he,rfl,rfl,h2⟩
 | .sl t,cs,vs,K,h,he=>by
  cases cs with
  | nil=>simp [tH] at he
  | cons c cs =>
   cases c with
   | sl t' l =>
    simp only [tH] at he;split at he
    ·rename_i ht;subst ht;simp only [zC,zA] at h;obtain ⟨v,vr,rfl,h1,h2⟩:=h;exact ⟨l,cs,[v],vr,he,rfl,h1,h2⟩
    ·cases he
   | c u =>
    simp only [zC,zA] at h;obtain ⟨v,vr,rfl,rfl,h2⟩:=h;unfold tH at he;split at he
    all_goals (rename_i e1 e2 e3 <;> first | (cases e1;done) | (cases e1;cases e2;done) | skip)
    all_goals first | contradiction | skip
    rename_i e1 e2 e3 _
    cases e1
    cases e2
    cases e3;exact ⟨[],_,[.slice none 0 0],vr,he,rfl,⟨none,0,rfl,Nat.le_refl _,λhp=>absurd hp (by simp)⟩,h2⟩
   | _=>simp [tH] at he
 | .unit,cs,vs,K,h,he=>by
  simp only [tH] at he;exact ⟨(),cs,[],vs,he,rfl,rfl,h⟩
 | .pair a b,cs,vs,K,h,he=>by
  simp only [tH] at he;obtain ⟨x,rest,es,us,h1,h2,h3,h4⟩:=uS h he;obtain ⟨y,rest',es',us',g1,g2,g3,g4⟩:=uS h4 h1;exact ⟨(x,y),rest',es++es',us',g1,by rw [h2,g2,lAs],⟨es,es',rfl,h3,g3⟩,g4⟩
 | .ln t,cs,vs,K,h,he=>by
  simp only [tH] at he;obtain ⟨x,rest,es,us,h1,h2,h3,h4⟩:=uS h he;exact ⟨x,rest,es,us,h1,h2,by simpa only [RelD] using h3,h4⟩
 | .rg t,cs,vs,K,h,he=>by
  simp only [tH] at he;obtain ⟨x,rest,es,us,h1,h2,h3,h4⟩:=uS h he;exact ⟨x,rest,es,us,h1,h2,by simpa only [RelD] using h3,h4⟩
 | .pt t,cs,vs,K,h,he=>by
  cases cs with
  | nil=>simp [tH] at he
  | cons c cs =>
   cases c with
   | fz t' x =>
    simp only [tH] at he;split at he
    ·rename_i ht;subst ht;simp only [zC,zA] at h;obtain ⟨v,vr,rfl,⟨h1,_⟩,h2⟩:=h;exact ⟨x,cs,[v],vr,he,rfl,h1,h2⟩
    ·cases he
   | c u =>
    simp only [zC,zA] at h;obtain ⟨v,vr,rfl,rfl,h2⟩:=h;simp only [tH] at he
    cases hu:wl v with
    | false=>simp [hu] at he
    | true =>
     simp only [hu,zI] at he
     cases isNilPtr_eq hu;exact ⟨none,cs,[.pointer none],vr,he,rfl,⟨none,rfl,.inl ⟨rfl,rfl⟩⟩,h2⟩
   | _=>simp [tH] at he
 | .mp k v ag,cs,vs,K,h,he=>by
  cases cs with
  | nil=>simp [tH] at he
  | cons c cs =>
   cases c with
   | fz t' x =>
    simp only [tH] at he;split at he
    ·rename_i ht;subst ht;simp only [zC,zA] at h;obtain ⟨v,vr,rfl,⟨h1,_⟩,h2⟩:=h;exact ⟨x,cs,[v],vr,he,rfl,h1,h2⟩
    ·cases he
   | _=>simp [tH] at he
 | .mx u,cs,vs,K,h,he=>by
  simp only [tH] at he
  cases hc:clT u with
  | false=>simp [hc] at he
  | true =>
   simp only [hc,zI] at he
   cases hd:(tH u cs λ_ _=>some ()).isSome with
   | true =>
    simp only [hd,zI] at he;obtain ⟨x,rest,es,us,h1,h2,h3,h4⟩:=uS h he;exact ⟨_,rest,es,us,h1,h2,by simp only [RelD];exact ⟨hc,h3.low,λ_=>h3⟩,h4⟩
   | false =>
    simp only [hd,zK] at he;obtain ⟨x,rest,es,us,h1,h2,h3,h4⟩:=decLn_ok h hc he;exact ⟨_,rest,es,us,h1,h2,by simp only [RelD];exact ⟨hc,h3,λh=>by cases h⟩,h4⟩
end Go.Ev
namespace Go.Ev
open Go
structure Agr (X:Nat->Nat->Prop) (w w':World):Prop where
 at_:∀ g o,¬ X g o->∀ v,w.cell? ⟨g,o,none⟩=some v->w'.cell? ⟨g,o,none⟩=some v
theorem Agr.refl {X:Nat->Nat->Prop} (w:World):Agr X w w:=⟨λ_ _ _ _ h=>h⟩
theorem Agr.cell {X:Nat->Nat->Prop} {w w':World} (h:Agr X w w') {g o:Nat} (hg:¬ X g o) {v:Value} (hc:w.cell? ⟨g,o,none⟩=some v):w'.cell? ⟨g,o,none⟩=some v:=h.at_ g o hg v hc
theorem Agr.row {X:Nat->Nat->Prop} {w w':World} (h:Agr X w w') {g o:Nat} {vs:List Value} (hg:∀ k,o<=k->k<o+vs.length->¬ X g k) (hr:rowAt w g o vs):rowAt w' g o vs :=
 λi hi=>h.cell (hg (o+i) (by omega) (by omega)) (hr i hi)
def Yields (P:Program) (X:Nat->Nat->Prop) (w:World) (ρ:Operand->Value) (op:Op) (val:Value):Prop :=
 ∀ o:Oper,o.op=op->∀ w',Agr X w w'->(execOp ρ o).run P w'=.ok (.value val) w'
def FreeOp (P:Program) (X:Nat->Nat->Prop) (ρ:Operand->Value):Op->Prop
 | .load t a=>∀ g o,ρ a=.pointer (some ⟨g,o,none⟩)->∀ k,k=o\/(o<=k/\k<o+P.cellsOf t)->¬ X g k
 | .convert _ _ x=>∀ g o n c,ρ x=.slice (some ⟨g,o,none⟩) n c->0<n->∀ k,¬ X g k
 | _=>True
theorem FreeOp.none {P:Program} {ρ:Operand->Value} {op:Op}:FreeOp P (λ_ _=>False) ρ op:=by
 cases op <;> simp [FreeOp]
section
variable {P:Program} {X:Nat->Nat->Prop} {w:World} {N:NN} {μ:Nat->Option Nat} {H:Nat->Blk} {α:Type} {r:α}
theorem zB {c:Bool} {x:Option α} {r:α} (h:cond c x none=some r):c=true/\x=some r:=by
 cases c <;> simp_all
theorem absCell_ok:∀ v,zA w N μ H (wv v) v:=by
 intro v
 cases v with
 | int k n =>
  cases k <;> simp only [wv,zA]
  cases hc:(decide (0<=n)&&decide (n<256)) with
  | false=>simp [zA]
  | true =>
   simp at hc;simp only [zI,zA];congr 1
   have:(UInt8.ofNat n.toNat).toNat=n.toNat:=by
    rw [UInt8.toNat_ofNat'];omega
   rw [this];omega
 | string s=>simp [wv,zA]
 | _=>simp [wv,zA]
theorem absCells_ok:∀ vs:List Value,zC w N μ H (vs.map wv) vs
 | []=>by simp [zC]
 | v::r=>by simp only [List.map_cons,zC];exact ⟨v,r,rfl,absCell_ok v,absCells_ok r⟩
theorem absV_ok (v:Value):zA w N μ H (absV v) v:=by
 cases v with
 | agg cs=>simp only [absV,zA];exact ⟨cs.toList,by simp,absCells_ok _⟩
 | _=>simp only [absV];exact absCell_ok _
theorem RelG_of {ρ:Operand->Value} {x:AV} {v:Value} (hx:yr x=x) (h:zA w N μ H x v):RelG w N μ H ρ x v:=by
 cases x <;> first | exact h | (simp [yr] at hx)
theorem absCell_ng (v:Value):yr (wv v)=wv v:=by
 cases v with
 | int k n=>cases k <;> simp only [wv,yr] <;> (cases (decide (0<=n)&&decide (n<256)) <;> rfl)
 | _=>simp [wv,yr]
theorem absV_ng (v:Value):yr (absV v)=absV v:=by
 cases v with
 | agg cs=>simp [absV,yr]
 | _=>simp only [absV];exact absCell_ng _
theorem opd_ok {E:Nat->AV} {a:Act} (hE:RelE w N μ H E a.tmps) (x:Operand):RelG w N μ H a.eval (opd E x) (a.eval x):=by
 cases x with
 | tmp t =>
  have h:=hE t;simp only [opd,Act.eval] at h ⊢;by_cases hlit:∃ y u,E t=.lit y u
  ·obtain ⟨y,u,hx⟩:=hlit;rw [hx] at h ⊢;simp only [zA] at h
   cases y <;> first | exact h.2 | exact trivial
  have hul:unlit (E t)=E t:=by
   cases hx:E t <;> first | rfl | exact absurd ⟨_,_,hx⟩ hlit
  rw [hul]
  cases hx:E t <;> simp only [hx] at h <;> simp only [RelG] <;> try exact h
  intro hj;simp only [Act.eval] at hj;rcases h with ⟨_,h2⟩ | ⟨h1,_⟩
  ·exact h2
  ·exact absurd hj h1
 | const v=>exact RelG_of (absV_ng v) (absV_ok v)
 | global g=>simp [opd,RelG,zA]
 | func f=>simp [opd,RelG,zA,Act.eval,zC]
theorem RelG.i {ρ:Operand->Value} {k:IntKind} {n:Int} {v:Value} (h:RelG w N μ H ρ (.i k n) v):v=.int k n:=by simpa [RelG,zA] using h
theorem info_of_underlying {t:TypeId} {d:TypeDesc} (h:P.underlying t=some d):∃ i,P.info? t=some i/\P.cellsOf t=i.size:=by
 unfold Program.underlying at h
 cases hi:P.info? t with
 | none=>simp [hi] at h
 | some i=>exact ⟨i,rfl,by simp [Program.cellsOf,hi]⟩
theorem yi {t:TypeId} {i:TypeInfo} (h:P.info? t=some i) (w:World):(sizeOf t).run P w=.ok i.size w:=by
 simp [sizeOf,typeInfo,h]
theorem wS {t:TypeId} {d:TypeDesc} (h:P.underlying t=some d) (w:World):(sizeOf t).run P w=.ok (P.cellsOf t) w:=by
 obtain ⟨i,hi,hc⟩:=info_of_underlying h;rw [yi hi,hc]
theorem tK {t:TypeId} {d:TypeDesc} (h:P.underlying t=some d) (w:World):(isAgg t).run P w=.ok (wP P t) w:=by
 unfold isAgg wP;rw [Sem.run_bind,run_underlying h w,h]
 cases d <;> simp
theorem xb (g o n:Nat):(⟨g,o,none⟩:Addr).add n=⟨g,o+n,none⟩:=by
 unfold Addr.add;split <;> simp_all
theorem run_cells {w:World} {g o:Nat} {vs:List Value} (h:rowAt w g o vs):(loadCells ⟨g,o,none⟩ vs.length).run P w=.ok vs.toArray w:=by
 refine run_loadCells_list w _ vs λj v hv=>?_
 rw [xb];obtain ⟨hj,rfl⟩:=List.getElem?_eq_some_iff.1 hv;exact h j hj
theorem rowAt_sub {w:World} {g o:Nat} {vs:List Value} (h:rowAt w g o vs) (k n:Nat):rowAt w g (o+k) ((vs.drop k).take n):=by
 intro i hi;simp only [xG,sG] at hi
 have:=h (k+i) (by omega)
 rw [Nat.add_assoc,this];simp
theorem cellsAt_ok {cs:List AV} {vs:List Value} {o n:Nat} {ag:Bool} {K:AV->Option α} {g b:Nat}
    (hr:zC w N μ H cs vs) (hrow:rowAt w g b vs) (h:wt cs o n ag K=some r) :
    ∃ v val,K v=some r/\zA w N μ H v val /\
      ((ag=true/\∃ us:List Value,val=.agg us.toArray/\us.length=n/\rowAt w g (b+o) us) \/
       (ag=false/\w.cell? ⟨g,b+o,none⟩=some val)):=by
  unfold wt at h
  cases ag with
  | true =>
    simp only [zI] at h;obtain ⟨hb,hK⟩:=zB h;have hle:o+n<=cs.length:=Nat.le_of_ble_eq_true hb;have hlen:=yU hr;refine ⟨_,.agg ((vs.drop o).take n).toArray,hK,?_,.inl ⟨rfl,_,rfl,?_,rowAt_sub hrow o n⟩⟩
    . simp only [zA];exact ⟨_,rfl,vL n (xu o hr)⟩
    . simp;omega
  | false =>
    simp only [zK] at h;have hd:=xu o hr
    cases hx:cs.drop o with
    | nil=>simp [hx] at h
    | cons x rest =>
      simp only [hx] at h hd;simp only [zC] at hd;obtain ⟨v,vr,hv,h1,_⟩:=hd;refine ⟨x,v,h,h1,.inr ⟨rfl,?_⟩⟩
      have hlt:o<vs.length:=by
        rcases Nat.lt_or_ge o vs.length with h | h
        . exact h
        . rw [List.drop_eq_nil_of_le h] at hv;cases hv
      have:=hrow o hlt
      rw [this];congr 1;have h2:(vs.drop o)[0]?=some v:=by rw [hv];rfl
      simp at h2;obtain ⟨_,h3⟩:=List.getElem?_eq_some_iff.1 h2;exact h3
theorem uK {t:TypeId} {d:TypeDesc} (hu:P.underlying t=some d) {w:World} {g o:Nat} {val:Value}
  (h:(wP P t=true/\∃ us:List Value,val=.agg us.toArray/\us.length=P.cellsOf t/\rowAt w g o us)\/(wP P t=false/\w.cell? ⟨g,o,none⟩=some val)) :
  (loadVar t ⟨g,o,none⟩).run P w=.ok val w:=by
 unfold loadVar;rw [Sem.run_bind,tK hu];rcases h with ⟨h1,us,rfl,h2,h3⟩ | ⟨h1,h2⟩
 ·have hc:=run_cells (P:=P) h3;simp only [h1,Result.andThen_ok,if_true,Sem.run_bind,wS hu,<- h2,hc,Sem.run_pure]
 ·simp [h1,h2]
theorem loadAV_ok {T:Tb} {F:Frm T} {nx:Nat} (hp:Hp F μ H nx w) {t:TypeId} {x:AV} {v:Value} {K:AV->Option α} (hx:zA w (Not F μ H) μ H x v)
  (hX:∀ g o,v=.pointer (some ⟨g,o,none⟩)->∀ k,k=o\/(o<=k/\k<o+P.cellsOf t)->¬ X g k) (h:loadAV P t x H K=some r):∃ y val,K y=some r/\zA w (Not F μ H) μ H y val/\∀ w',Agr X w w'->(Instr.loadAt t v).run P w'=.ok val w':=by
 unfold loadAV at h
 cases hu:P.underlying t with
 | none=>simp [hu] at h
 | some d =>
  simp only [hu] at h
  cases x <;> simp only [reduceCtorEq] at h
  case ptr b o =>
   cases hb:H b <;> simp only [hb,reduceCtorEq] at h;rename_i cs;have hB:=hp.blk b;simp only [hb,za] at hB;simp only [zA] at hx;obtain ⟨_,g',hg',rfl⟩:=hx;rcases hB with hB | ⟨g,vs,hg,hr,hrow,_⟩
   ·rw [hB] at hg';cases hg'
   rw [hg] at hg';cases hg';obtain ⟨y,val,hK,hy,hc⟩:=cellsAt_ok hr hrow h;refine ⟨y,val,hK,hy,λw' hw=>?_⟩;simp only [Instr.loadAt,Instr.sureAddr,Sem.run_bind,Sem.run_pure,Result.andThen_ok];refine uK hu ?_;simp only [Nat.zero_add] at hc;rcases hc with ⟨h1,us,h2,h3,h4⟩ | ⟨h1,h2⟩
   ·exact .inl ⟨h1,us,h2,h3,hw.row (λk k1 k2=>hX _ _ rfl k (.inr ⟨k1,by rw [h3] at k2;exact k2⟩)) h4⟩
   ·exact .inr ⟨h1,hw.cell (hX _ _ rfl _ (.inl rfl)) h2⟩
  case ep b t' ix f =>
   simp only [zA] at hx;obtain ⟨l,g,hb,hix,hg,rfl⟩:=hx;simp only [hb,zd,zI] at h;have hB:=hp.blk b;simp only [hb,za] at hB;rcases hB with ⟨_,rfl⟩ | ⟨g',hg',_,hrow⟩
   ·simp at hix
   rw [hg] at hg';cases hg';obtain ⟨es,he1,he2,he3⟩:=hrow ix hix;have hgd:l.getD ix t'.dflt=l[ix]:=by simp [List.getD,List.getElem?_eq_getElem hix]
   rw [hgd] at h;obtain ⟨y,val,hK,hy,hc⟩:=cellsAt_ok (ya he3) he2 h;refine ⟨y,val,hK,hy,λw' hw=>?_⟩;simp only [Instr.loadAt,Instr.sureAddr,Sem.run_bind,Sem.run_pure,Result.andThen_ok];refine uK hu ?_;rcases hc with ⟨h1,us,h2,h3,h4⟩ | ⟨h1,h2⟩
   ·exact .inl ⟨h1,us,h2,h3,hw.row (λk k1 k2=>hX _ _ rfl k (.inr ⟨k1,by rw [h3] at k2;exact k2⟩)) h4⟩
   ·exact .inr ⟨h1,hw.cell (hX _ _ rfl _ (.inl rfl)) h2⟩
  case fp t' l ix f =>
   simp only [zA] at hx;obtain ⟨hix,g,o,hn,hlt,rfl,es,he1,he2,_,he3⟩:=hx;have hgd:l.getD ix t'.dflt=l[ix]:=by simp [List.getD,List.getElem?_eq_getElem hix]
   rw [hgd] at h;obtain ⟨y,val,hK,hy,hc⟩:=cellsAt_ok (ya he3.1) he2 h;refine ⟨y,val,hK,hy,λw' hw=>?_⟩;simp only [Instr.loadAt,Instr.sureAddr,Sem.run_bind,Sem.run_pure,Result.andThen_ok];refine uK hu ?_;rcases hc with ⟨h1,us,h2,h3,h4⟩ | ⟨h1,h2⟩
   ·exact .inl ⟨h1,us,h2,h3,hw.row (λk k1 k2=>hX _ _ rfl k (.inr ⟨k1,by rw [h3] at k2;exact k2⟩)) h4⟩
   ·exact .inr ⟨h1,hw.cell (hX _ _ rfl _ (.inl rfl)) h2⟩
end
end Go.Ev
namespace Go.Ev
open Go
section
variable {P:Program} {w:World} {N:NN} {μ:Nat->Option Nat} {H:Nat->Blk} {α:Type} {r:α}
theorem RelG.rel {ρ:Operand->Value} {x:AV} {v:Value} (h:RelG w N μ H ρ x v):zA w N μ H x v:=by
 cases x <;> first | exact h | simp [zA]
theorem wr_ok {k:IntKind} {n:Int}:zA w N μ H (wr k n) (.int k (k.wrap n)):=by
 cases k <;> simp [wr,zA,zh]
theorem u8_toNat (x:UInt8):x.toNat<256:=by have:=x.toNat_lt;omega
theorem ui (n:Int):IntKind.u8.wrap n=n % 256:=by
 simp [IntKind.wrap,IntKind.bits,IntKind.signed]
theorem u8of_toNat (n:Int):((u8of n).toNat:Int)=IntKind.u8.wrap n:=by
 rw [ui,u8of,UInt8.toNat_ofNat'];omega
theorem eqGuard_int (op:BinOp) (t:TypeId) (x y:Operand) (a b:Value) (w:World) (h1:∀ cs,a≠.agg cs) (h2:a≠.nilIface):(eqGuard op t x y a b).run P w=.ok () w:=by
 unfold eqGuard
 cases op <;> simp <;> (cases a <;> simp_all)
def zs (P:Program) (_w:World) (op:BinOp) (t:TypeId) (a b:Value) (val:Value):Prop:=∀ w',True->∀ x y:Operand,((do eqGuard op t x y a b;binOp op t a b:Sem Value)).run P w'=.ok val w'
theorem yields_bin {X:Nat->Nat->Prop} {ρ:Operand->Value} {op:BinOp} {t:TypeId} {x y:Operand} {ty:TypeId} {val:Value} (h:zs P w op t (ρ x) (ρ y) val):Yields P X w ρ (.binOp op t x y ty) val:=by
 intro o ho w' hw
 have:=h w' trivial x y
 simp only [execOp,ho,Sem.run_bind] at this ⊢;generalize hq:((eqGuard op t x y (ρ x) (ρ y)).run P w').andThen _=q at this ⊢;subst this;simp
theorem zg {op:BinOp} {t:TypeId} {a b val:Value} (h1:∀ cs,a≠.agg cs) (h2:a≠.nilIface) (h:∀ w',True->(binOp op t a b).run P w'=.ok val w'):zs P w op t a b val:=by
 intro w' hw x y;simp only [Sem.run_bind,eqGuard_int op t x y a b w' h1 h2,Result.andThen_ok,h w' trivial]
def yg (op:BinOp) (k:IntKind) (x y:Int):Sem Value :=
 match op with
 | .add | .sub | .mul=>Op.intArith op k x y
 | .quo | .rem=>Op.intDiv op k x y
 | .and | .or | .xor | .andNot=>Op.intBits op k x y
 | _=>Op.intCmp op x y
theorem uG {op:BinOp} {t:TypeId} {k:IntKind} {x y:Int} (h1:op≠.shl) (h2:op≠.shr):binOp op t (.int k x) (.int k y)=yg op k x y:=by
 cases op <;> first | exact absurd rfl h1 | exact absurd rfl h2 | simp [binOp,yg]
theorem intBin_ok {op:BinOp} {t:TypeId} {k:IntKind} {x y:Int} {K:AV->Option α} (h:intBin op k x y K=some r) :
  ∃ v val,K v=some r/\zA w N μ H v val/\zs P w op t (.int k x) (.int k y) val:=by
 have key:∀ (hs:op≠.shl) (hs':op≠.shr) (val:Value),(∀ w',(yg op k x y).run P w'=.ok val w')->zs P w op t (.int k x) (.int k y) val:=λhs hs' val hh =>
  zg (by simp) (by simp) λw' _=>by rw [uG hs hs'];exact hh w'
 cases op <;> simp only [intBin,reduceCtorEq] at h
 case add=>exact ⟨_,_,h,wr_ok,key (by simp) (by simp) _ λw'=>by simp [yg,Op.intArith]⟩
 case sub=>exact ⟨_,_,h,wr_ok,key (by simp) (by simp) _ λw'=>by simp [yg,Op.intArith]⟩
 case mul=>exact ⟨_,_,h,wr_ok,key (by simp) (by simp) _ λw'=>by simp [yg,Op.intArith]⟩
 case and=>exact ⟨_,.int k (wu .and k x y),h,by simp [zA],key (by simp) (by simp) _ λw'=>by simp [yg,Op.intBits,wu]⟩
 case or=>exact ⟨_,.int k (wu .or k x y),h,by simp [zA],key (by simp) (by simp) _ λw'=>by simp [yg,Op.intBits,wu]⟩
 case xor=>exact ⟨_,.int k (wu .xor k x y),h,by simp [zA],key (by simp) (by simp) _ λw'=>by simp [yg,Op.intBits,wu]⟩
 case andNot=>exact ⟨_,.int k (wu .andNot k x y),h,by simp [zA],key (by simp) (by simp) _ λw'=>by simp [yg,Op.intBits,wu]⟩
 all_goals refine ⟨_,_,h,by simp only [zA];rfl,key (by simp) (by simp) _ λw'=>?_⟩
 ·simp [yg,Op.intCmp];rfl
 ·simp [yg,Op.intCmp,bne];rfl
 ·simp [yg,Op.intCmp]
 ·simp [yg,Op.intCmp]
 ·simp [yg,Op.intCmp]
 ·simp [yg,Op.intCmp]
theorem u8Bin_ok {op:BinOp} {t:TypeId} {x y:UInt8} {K:AV->Option α} (h:u8Bin op x y K=some r) :
  ∃ v val,K v=some r/\zA w N μ H v val/\zs P w op t (.int .u8 (x.toNat:Int)) (.int .u8 (y.toNat:Int)) val:=by
 have hx:=u8_toNat x;have hy:=u8_toNat y
 have key:∀ (hs:op≠.shl) (hs':op≠.shr) (val:Value),(∀ w',(yg op .u8 (x.toNat:Int) (y.toNat:Int)).run P w'=.ok val w')->zs P w op t (.int .u8 (x.toNat:Int)) (.int .u8 (y.toNat:Int)) val:=λhs hs' val hh =>
  zg (by simp) (by simp) λw' _=>by rw [uG hs hs'];exact hh w'
 have eqb:((x.toNat:Int) == (y.toNat:Int))=decide (x=y):=by
  rw [Bool.eq_iff_iff];simp only [beq_iff_eq,xX];exact ⟨λh=>UInt8.toNat_inj.1 (by omega),λh=>by rw [h]⟩
 have back:∀ v:BitVec 8,(IntKind.u8.wrap (v.toNat:Int))=((UInt8.ofBitVec v).toNat:Int):=λv=>by
  rw [ui];have:=v.isLt;show _=(v.toNat:Int);omega
 have bv:∀ z:UInt8,BitVec.ofInt 8 (z.toNat:Int)=z.toBitVec:=λz=>by
  rw [BitVec.ofInt_natCast];apply BitVec.eq_of_toNat_eq;rw [BitVec.toNat_ofNat,<- UInt8.toNat_toBitVec]
  have:=z.toBitVec.isLt
  omega
 cases op <;> simp only [u8Bin,reduceCtorEq] at h
 case add=>exact ⟨_,_,h,by simp only [zA];rfl,key (by simp) (by simp) _ λw'=>by
   simp only [yg,Op.intArith,Sem.run_pure];refine congrArg (λz=>Result.ok (Value.int .u8 z) w') ?_;rw [ui,UInt8.toNat_add];try omega⟩
 case sub=>exact ⟨_,_,h,by simp only [zA];rfl,key (by simp) (by simp) _ λw'=>by
   simp only [yg,Op.intArith,Sem.run_pure];refine congrArg (λz=>Result.ok (Value.int .u8 z) w') ?_;rw [ui,UInt8.toNat_sub];try omega⟩
 case mul=>exact ⟨_,_,h,by simp only [zA];rfl,key (by simp) (by simp) _ λw'=>by
   simp only [yg,Op.intArith,Sem.run_pure];refine congrArg (λz=>Result.ok (Value.int .u8 z) w') ?_;rw [ui,UInt8.toNat_mul];try simp⟩
 case and=>exact ⟨_,_,h,by simp only [zA];rfl,key (by simp) (by simp) _ λw'=>by
   simp only [yg,Op.intBits,Sem.run_pure];congr 1;congr 1;show IntKind.u8.wrap (((BitVec.ofInt 8 (x.toNat:Int) &&& BitVec.ofInt 8 (y.toNat:Int):BitVec 8).toNat:Nat):Int)=_;rw [back,bv,bv];rfl⟩
 case or=>exact ⟨_,_,h,by simp only [zA];rfl,key (by simp) (by simp) _ λw'=>by
   simp only [yg,Op.intBits,Sem.run_pure];congr 1;congr 1;show IntKind.u8.wrap (((BitVec.ofInt 8 (x.toNat:Int) ||| BitVec.ofInt 8 (y.toNat:Int):BitVec 8).toNat:Nat):Int)=_;rw [back,bv,bv];rfl⟩
 case xor=>exact ⟨_,_,h,by simp only [zA];rfl,key (by simp) (by simp) _ λw'=>by
   simp only [yg,Op.intBits,Sem.run_pure];congr 1;congr 1;show IntKind.u8.wrap (((BitVec.ofInt 8 (x.toNat:Int) ^^^ BitVec.ofInt 8 (y.toNat:Int):BitVec 8).toNat:Nat):Int)=_;rw [back,bv,bv];rfl⟩
 case andNot=>exact ⟨_,_,h,by simp only [zA];rfl,key (by simp) (by simp) _ λw'=>by
   simp only [yg,Op.intBits,Sem.run_pure];congr 1;congr 1;show IntKind.u8.wrap (((BitVec.ofInt 8 (x.toNat:Int) &&& ~~~ BitVec.ofInt 8 (y.toNat:Int):BitVec 8).toNat:Nat):Int)=_;rw [back,bv,bv];rfl⟩
 all_goals refine ⟨_,_,h,by simp only [zA];rfl,key (by simp) (by simp) _ λw'=>?_⟩
 ·simp only [yg,Op.intCmp,Sem.run_pure,eqb]
 ·simp only [yg,Op.intCmp,Sem.run_pure,bne,eqb]
 ·simp [yg,Op.intCmp]
 ·simp [yg,Op.intCmp]
 ·simp [yg,Op.intCmp]
 ·simp [yg,Op.intCmp]
theorem bytes_eq (x y:List UInt8):((⟨x.toArray⟩:ByteArray).toList == (⟨y.toArray⟩:ByteArray).toList)=decide (x=y):=by
 simp [ByteArray.toList_mk];rw [Bool.eq_iff_iff];simp
theorem strBin_ok {op:BinOp} {t:TypeId} {x y:List UInt8} {K:AV->Option α} (h:strBin op x y K=some r) :
  ∃ v val,K v=some r/\zA w N μ H v val/\zs P w op t (.string ⟨x.toArray⟩) (.string ⟨y.toArray⟩) val:=by
 have key:∀ (hs:op≠.shl) (hs':op≠.shr) (val:Value),(∀ w',(Op.stringOp op (⟨x.toArray⟩:ByteArray) ⟨y.toArray⟩).run P w'=.ok val w') ->
   zs P w op t (.string ⟨x.toArray⟩) (.string ⟨y.toArray⟩) val:=λhs hs' val hh =>
  zg (by simp) (by simp) λw' _=>by
   have:binOp op t (.string ⟨x.toArray⟩) (.string ⟨y.toArray⟩)=Op.stringOp op ⟨x.toArray⟩ ⟨y.toArray⟩:=by cases op <;> simp_all [binOp]
   rw [this];exact hh w'
 have hb:(x == y)=decide (x=y):=by rw [Bool.eq_iff_iff];simp
 cases op <;> simp only [strBin,reduceCtorEq] at h
 all_goals refine ⟨_,_,h,by simp only [zA];rfl,key (by simp) (by simp) _ λw'=>?_⟩
 all_goals simp only [Op.stringOp,ByteArray.toList_mk,hb,Sem.run_pure]
theorem eqCell_ok {x y:AV} {a b:Value} {K:Bool->Option α} (hx:zA w N μ H x a) (hy:zA w N μ H y b) (h:xS x y K=some r) :
  ∃ q,K q=some r/\((∃ k m n,a=.int k m/\b=.int k n/\q=(m == n))\/(∃ m n:ByteArray,a=.string m/\b=.string n/\q=(m == n))\/(∃ m n,a=.bool m/\b=.bool n/\q=(m == n))):=by
 cases x <;> cases y <;> simp only [xS,reduceCtorEq] at h <;> simp only [zA] at hx hy <;> subst hx <;> subst hy
 case i.i k m k' n =>
  by_cases hk:k=k'
  ·subst hk;simp at h;refine ⟨_,h,.inl ⟨k,m,n,rfl,rfl,?_⟩⟩;rw [Bool.eq_iff_iff];simp
  ·simp [hk] at h
 case u.u m n =>
  refine ⟨_,h,.inl ⟨.u8,_,_,rfl,rfl,?_⟩⟩;rw [Bool.eq_iff_iff];simp only [beq_iff_eq,xX];exact ⟨λh=>by rw [h],λh=>UInt8.toNat_inj.1 (by omega)⟩
 case s.s m n =>
  refine ⟨_,h,.inr (.inl ⟨_,_,rfl,rfl,?_⟩)⟩;rw [beq_toListBytes,bytes_eq]
 all_goals exact ⟨_,h,.inr (.inr ⟨_,_,rfl,rfl,rfl⟩)⟩
end
end Go.Ev
namespace Go.Ev
open Go
section
variable {P:Program} {w:World} {N:NN} {μ:Nat->Option Nat} {H:Nat->Blk} {α:Type} {r:α}
theorem flat_notAgg {t:TypeId} {x:AV} (h:vH P t x=true):∃ d,P.underlying t=some d/\wP P t=false:=by
 unfold vH at h;unfold wP
 cases hu:P.underlying t with
 | none=>simp [hu] at h
 | some d=>refine ⟨d,rfl,?_⟩;cases d <;> simp_all
theorem vz {t:TypeId} {x y:AV} {a b:Value} {K:Bool->Option α} (hf:vH P t x=true) (hx:zA w N μ H x a) (hy:zA w N μ H y b) (h:xS x y K=some r) :
  ∃ q,K q=some r/\∀ d w',(Op.equalIn (d+1) t a b).run P w'=.ok q w':=by
 obtain ⟨q,hK,hq⟩:=eqCell_ok hx hy h;refine ⟨q,hK,λd w'=>?_⟩;unfold vH at hf
 cases hu:P.underlying t with
 | none=>simp [hu] at hf
 | some ds =>
  rcases hq with ⟨k,m,n,rfl,rfl,rfl⟩ | ⟨m,n,rfl,rfl,rfl⟩ | ⟨m,n,rfl,rfl,rfl⟩
  all_goals
   cases ds <;> simp only [hu,Bool.false_eq_true] at hf <;> cases x <;> simp only [zA,reduceCtorEq] at hx hf <;> try contradiction
  all_goals first
   | exact run_equalIn_int w' d t _ _ _ _ hu
   | exact run_equalIn_bool' w' d t _ _ hu
   | (rw [run_equalIn_string w' d t _ _ hu,beq_toListBytes];done)
   | (simp_all;done)
theorem vV {t:TypeId} {d:TypeDesc} (hu:P.underlying t=some d) (ha:wP P t=false) (cs:List Value) (o:Nat) (v:Value) (hv:cs[o]?=some v) (w':World) :
  (part t cs.toArray o).run P w'=.ok v w':=by
 unfold part;rw [Sem.run_bind,tK hu];simp [ha,hv]
theorem eqFS_ok:∀ (fs:List Field) (i:Nat) (xs ys:List AV) (X Y:List Value) (K:Bool->Option α),zC w N μ H xs (X.drop i)->zC w N μ H ys (Y.drop i) ->
  tD P i fs xs ys K=some r->∃ q,K q=some r/\∀ d w',(Op.eqFields (d+1) X.toArray Y.toArray fs).run P w'=.ok q w':=by
 have hd:∀ (X:List Value) i v vr,X.drop i=v::vr->X[i]?=some v/\X.drop (i+1)=vr:=λX i v vr h=>by
  constructor
  ·have:(X.drop i)[0]?=some v:=by rw [h];rfl
   simpa using this
  ·have:(X.drop i).drop 1=vr:=by rw [h];rfl
   simpa [Nat.add_comm] using this
 intro fs;induction fs with
 | nil =>
  intro i xs ys X Y K hx hy h
  cases xs <;> cases ys <;> simp only [tD,reduceCtorEq] at h;exact ⟨true,h,λd w'=>by simp [Op.eqFields]⟩
 | cons f fs ih =>
  intro i xs ys X Y K hx hy h
  cases xs with
  | nil=>cases fs <;> simp [tD] at h
  | cons x xs =>
   cases ys with
   | nil=>cases fs <;> cases xs <;> simp [tD] at h
   | cons y ys =>
    simp only [zC] at hx hy;obtain ⟨a,ar,hX,h1,h2⟩:=hx;obtain ⟨b,br,hY,g1,g2⟩:=hy;obtain ⟨ha,har⟩:=hd _ _ _ _ hX;obtain ⟨hb,hbr⟩:=hd _ _ _ _ hY
    have key:∀ {K':Bool->Option α},cond (f.name != "_"&&Nat.beq f.offset i&&vH P f.type x) (xS x y K') none=some r ->
      ∃ q,K' q=some r/\∀ d w' fs',(Op.eqFields (d+1) X.toArray Y.toArray (f::fs')).run P w'=if q then (Op.eqFields (d+1) X.toArray Y.toArray fs').run P w' else .ok false w':=by
     intro K' hc;obtain ⟨hc1,hc2⟩:=zB hc;simp only [yR,bne_iff_ne,ne_eq] at hc1;obtain ⟨⟨hn,ho⟩,hf⟩:=hc1;have ho':f.offset=i:=xi ho;obtain ⟨q,hq,he⟩:=vz hf h1 g1 hc2;obtain ⟨ds,hu,hag⟩:=flat_notAgg hf;refine ⟨q,hq,λd w' fs'=>?_⟩;have p1:=vV (P:=P) hu hag X f.offset a (by rw [ho'];exact ha) w';have p2:=vV (P:=P) hu hag Y f.offset b (by rw [ho'];exact hb) w';rw [Op.eqFields,if_pos hn];simp only [Sem.run_bind,p1,p2,he,Result.andThen_ok]
     cases q <;> simp
    have gen:cond (f.name != "_"&&Nat.beq f.offset i&&vH P f.type x) (xS x y λr=>tD P (i+1) fs xs ys λq=>K (r&&q)) none=some r ->
      ∃ q,K q=some r/\∀ d w',(Op.eqFields (d+1) X.toArray Y.toArray (f::fs)).run P w'=.ok q w':=by
     intro hg;obtain ⟨q,hq,he⟩:=key hg;obtain ⟨q',hq',he'⟩:=ih (i+1) xs ys X Y _ (by rw [har];exact h2) (by rw [hbr];exact g2) hq;exact ⟨q&&q',hq',λd w'=>by rw [he,he'];cases q <;> simp⟩
    cases fs with
    | cons f' fs=>exact gen (by cases xs <;> cases ys <;> simpa only [tD] using h)
    | nil =>
     cases xs with
     | cons x' xs=>exact gen (by cases ys <;> simpa only [tD] using h)
     | nil =>
      cases ys with
      | cons y' ys=>exact gen (by simpa only [tD] using h)
      | nil =>
       simp only [tD] at h;obtain ⟨q,hq,he⟩:=key h;exact ⟨q,hq,λd w'=>by rw [he];cases q <;> simp [Op.eqFields]⟩
theorem run_partAgg {t:TypeId} {gs:Array Field} (hu:P.underlying t=some (.struct gs)) (cs:List Value) (o:Nat) (w':World) :
  (part t cs.toArray o).run P w'=.ok (.agg ((cs.drop o).take (P.cellsOf t)).toArray) w':=by
 unfold part;have ha:wP P t=true:=by simp [wP,hu]
 rw [Sem.run_bind,tK hu];simp only [ha,Result.andThen_ok,if_true,Sem.run_bind,wS hu,Sem.run_pure];congr 2;apply Array.ext';simp [List.take_drop]
theorem eqFS2_ok:∀ (fs:List Field) (i:Nat) (xs ys:List AV) (X Y:List Value) (K:Bool->Option α),zC w N μ H xs (X.drop i)->zC w N μ H ys (Y.drop i) ->
  eqFS2 P i fs xs ys K=some r->∃ q,K q=some r/\∀ d w',(Op.eqFields (d+2) X.toArray Y.toArray fs).run P w'=.ok q w':=by
 intro fs;induction fs with
 | nil =>
  intro i xs ys X Y K hx hy h
  cases xs <;> cases ys <;> simp only [eqFS2,reduceCtorEq] at h;exact ⟨true,h,λd w'=>by simp [Op.eqFields]⟩
 | cons f fs ih =>
  intro i xs ys X Y K hx hy h;simp only [eqFS2] at h
  have flat:∀ (xs ys:List AV),zC w N μ H xs (X.drop i)->zC w N μ H ys (Y.drop i)->(match xs,ys with
   | x::xs,y::ys=>cond (f.name != "_"&&Nat.beq f.offset i&&vH P f.type x)
     (xS x y λr=>eqFS2 P (i+1) fs xs ys λq=>K (r&&q)) none
   | _,_=>none)=some r->∃ q,K q=some r/\∀ d w',(Op.eqFields (d+2) X.toArray Y.toArray (f::fs)).run P w'=.ok q w':=by
   clear h hx hy xs ys;intro xs ys hx hy h
   cases xs with
   | nil=>simp at h
   | cons x xs =>
    cases ys with
    | nil=>simp at h
    | cons y ys =>
     simp only at h;simp only [zC] at hx hy;obtain ⟨a,ar,hX,h1,h2⟩:=hx;obtain ⟨b,br,hY,g1,g2⟩:=hy
     have hd:∀ (X:List Value) v vr,X.drop i=v::vr->X[i]?=some v/\X.drop (i+1)=vr:=λX v vr h=>by
      constructor
      ·have:(X.drop i)[0]?=some v:=by rw [h];rfl
       simpa using this
      ·have:(X.drop i).drop 1=vr:=by rw [h];rfl
       simpa [Nat.add_comm] using this
     obtain ⟨ha,har⟩:=hd _ _ _ hX;obtain ⟨hb,hbr⟩:=hd _ _ _ hY;obtain ⟨hc1,hc2⟩:=zB h;simp only [yR,bne_iff_ne,ne_eq] at hc1;obtain ⟨⟨hn,ho⟩,hf⟩:=hc1;have ho':f.offset=i:=xi ho;obtain ⟨q,hq,he⟩:=vz hf h1 g1 hc2;obtain ⟨ds,hu,hag⟩:=flat_notAgg hf;obtain ⟨q',hq',he'⟩:=ih (i+1) xs ys X Y _ (by rw [har];exact h2) (by rw [hbr];exact g2) hq;refine ⟨q&&q',hq',λd w'=>?_⟩;have p1:=vV (P:=P) hu hag X f.offset a (by rw [ho'];exact ha) w';have p2:=vV (P:=P) hu hag Y f.offset b (by rw [ho'];exact hb) w';rw [Op.eqFields,if_pos hn];simp only [Sem.run_bind,p1,p2,he,Result.andThen_ok]
     cases q <;> simp [he']
  split at h
  ·rename_i gs hu;obtain ⟨hc1,hc2⟩:=zB h;simp only [yR,bne_iff_ne,ne_eq,Bool.not_eq_true'] at hc1;obtain ⟨⟨hn,ho⟩,hst⟩:=hc1;have ho':f.offset=i:=xi ho;obtain ⟨q,hq,he⟩:=eqFS_ok gs.toList 0 _ _ ((X.drop i).take (P.cellsOf f.type)) ((Y.drop i).take (P.cellsOf f.type)) _ (by simpa using vL _ hx) (by simpa using vL _ hy) hc2;obtain ⟨q',hq',he'⟩:=ih (i+P.cellsOf f.type) _ _ X Y _ (by rw [<- List.drop_drop];exact xu _ hx) (by rw [<- List.drop_drop];exact xu _ hy) hq;refine ⟨q&&q',hq',λd w'=>?_⟩;have hf:P.fieldsOf f.type=gs:=by simp [Program.fieldsOf,hu]
   have hu':P.underlying f.type=some (.struct (P.fieldsOf f.type)):=by rw [hf,hu]
   have p1:=run_partAgg (P:=P) hu X f.offset w';have p2:=run_partAgg (P:=P) hu Y f.offset w';have p3:=run_equalIn_agg w' (d+1) f.type ((X.drop i).take (P.cellsOf f.type)).toArray ((Y.drop i).take (P.cellsOf f.type)).toArray hu' hst;rw [hf,he] at p3;rw [ho'] at p1 p2;rw [Op.eqFields,if_pos hn,ho'];simp only [Sem.run_bind,p1,p2,p3,Result.andThen_ok]
   cases q <;> simp [he']
  ·exact flat _ _ hx hy h
theorem run_equalIn_arr2 {t e:TypeId} {ds:TypeDesc} (ht:P.underlying t=some (.array 2 e)) (hs:P.cellsOf e=1) (hu:P.underlying e=some ds) (ha:wP P e=false) {a1 a2 b1 b2:Value} {q1 q2:Bool} {d:Nat}
  (h1:∀ w',(Op.equalIn d e a1 b1).run P w'=.ok q1 w') (h2:∀ w',(Op.equalIn d e a2 b2).run P w'=.ok q2 w') (w':World) :
  (Op.equalIn (d+1) t (.agg #[a1,a2]) (.agg #[b1,b2])).run P w'=.ok (q1&&q2) w':=by
 have p1:∀ w',(part e #[a1,a2] 0).run P w'=.ok a1 w':=vV hu ha [a1,a2] 0 a1 rfl;have p2:∀ w',(part e #[a1,a2] 1).run P w'=.ok a2 w':=vV hu ha [a1,a2] 1 a2 rfl;have p3:∀ w',(part e #[b1,b2] 0).run P w'=.ok b1 w':=vV hu ha [b1,b2] 0 b1 rfl;have p4:∀ w',(part e #[b1,b2] 1).run P w'=.ok b2 w':=vV hu ha [b1,b2] 1 b2 rfl;have hz:∀ w',(sizeOf e).run P w'=.ok 1 w':=λw'=>by rw [wS hu,hs]
 unfold Op.equalIn;simp only [Sem.run_bind,run_underlying ht,Result.andThen_ok,hz];simp [List.range',p1,p2,p3,p4,h1,h2]
 cases q1 <;> cases q2 <;> simp
theorem eqAgg_ok {t:TypeId} {xs ys:List AV} {X Y:List Value} {K:Bool->Option α} (hx:zC w N μ H xs X) (hy:zC w N μ H ys Y) (h:eqAgg P t xs ys K=some r) :
  ∃ q,K q=some r/\zs P w .eql t (.agg X.toArray) (.agg Y.toArray) (.bool q)/\zs P w .neq t (.agg X.toArray) (.agg Y.toArray) (.bool (!q)):=by
 unfold eqAgg at h;obtain ⟨h1,h2⟩:=zB h;simp only [yR,Bool.not_eq_true'] at h1;split at h2
 ·rename_i fs hu
  obtain ⟨q,hq,he⟩:∃ q,K q=some r/\∀ d w',(Op.eqFields (d+2) X.toArray Y.toArray fs.toList).run P w'=.ok q w':=by
   cases hb:Nat.beq fs.size xs.length
   ·rw [hb,zK] at h2;exact eqFS2_ok fs.toList 0 xs ys X Y K (by simpa using hx) (by simpa using hy) h2
   ·rw [hb,zI] at h2;obtain ⟨q,hq,he⟩:=eqFS_ok fs.toList 0 xs ys X Y K (by simpa using hx) (by simpa using hy) h2;exact ⟨q,hq,λd w'=>he (d+1) w'⟩
  have hf:P.fieldsOf t=fs:=by simp [Program.fieldsOf,hu]
  have hu':P.underlying t=some (.struct (P.fieldsOf t)):=by rw [hf,hu]
  refine ⟨q,hq,λw' _ x y=>?_,λw' _ x y=>?_⟩
  ·simp only [Sem.run_bind,run_eqGuard_agg w' _ t x y _ _ h1.1,Result.andThen_ok,run_eql_struct,run_equalIn_agg w' 9999 t _ _ hu' h1.2,hf,he 9997]
  ·simp only [Sem.run_bind,run_eqGuard_agg w' _ t x y _ _ h1.1,Result.andThen_ok,run_neq_struct,run_equalIn_agg w' 9999 t _ _ hu' h1.2,hf,he 9997]
 ·rename_i e hu;split at h2
  ·rename_i x1 x2 y1 y2;obtain ⟨h3,h4⟩:=zB h2;simp only [yR] at h3;obtain ⟨⟨h5,h6⟩,h7⟩:=h3;simp only [zC] at hx hy;obtain ⟨a1,r1,rfl,ha1,a2,r2,rfl,ha2,rfl⟩:=hx;obtain ⟨b1,s1,rfl,hb1,b2,s2,rfl,hb2,rfl⟩:=hy;obtain ⟨q1,h8,e1⟩:=vz h6 ha1 hb1 h4;obtain ⟨q2,h9,e2⟩:=vz h7 ha2 hb2 h8;obtain ⟨ds,hue,hag⟩:=flat_notAgg h6;have hrun:=run_equalIn_arr2 (P:=P) hu (xi h5) hue hag (d:=9999) (e1 9998) (e2 9998);refine ⟨q1&&q2,h9,λw' _ x y=>?_,λw' _ x y=>?_⟩
   ·simp only [Sem.run_bind,run_eqGuard_agg w' _ t x y _ _ h1.1,Result.andThen_ok,run_eql_struct]
    have:=hrun w'
    simp only [this,Result.andThen_ok]
   ·simp only [Sem.run_bind,run_eqGuard_agg w' _ t x y _ _ h1.1,Result.andThen_ok,run_neq_struct]
    have:=hrun w'
    simp only [this,Result.andThen_ok]
  ·cases h2
 ·cases h2
theorem isBool_und {t:TypeId} (h:isBoolTy P t=true):P.underlying t=some .bool:=by
 unfold isBoolTy at h
 cases hu:P.underlying t with
 | none=>simp [hu] at h
 | some d=>cases d <;> simp_all
theorem evBin_ok {op:BinOp} {t:TypeId} {x y:AV} {a b:Value} {K:AV->Option α} (hx:zA w N μ H x a) (hy:zA w N μ H y b) (h:evBin P op t x y K=some r) :
  ∃ v val,K v=some r/\zA w N μ H v val/\zs P w op t a b val:=by
 have bools:∀ {x y:AV} {a b:Value},zA w N μ H x a->zA w N μ H y b->(∀ xs,x≠.agg xs) ->
   cond (isBoolTy P t) (match op with
    | .eql=>xS x y λr=>K (.b r)
    | .neq=>xS x y λr=>K (.b (!r))
    | _=>none) none=some r->∃ v val,K v=some r/\zA w N μ H v val/\zs P w op t a b val:=by
  intro x y a b hx hy hxa hc;obtain ⟨hb,hc⟩:=zB hc;have hu:=isBool_und hb
  have fin:∀ q,((∃ k m n,a=.int k m/\b=.int k n/\q=(m == n))\/(∃ m n:ByteArray,a=.string m/\b=.string n/\q=(m == n))\/(∃ m n,a=.bool m/\b=.bool n/\q=(m == n))) ->
    zs P w .eql t a b (.bool q)/\zs P w .neq t a b (.bool (!q)):=by
   intro q hq;rcases hq with ⟨k,m,n,rfl,rfl,rfl⟩ | ⟨m,n,rfl,rfl,rfl⟩ | ⟨m,n,rfl,rfl,rfl⟩
   ·constructor <;> refine zg (by simp) (by simp) λw' _=>?_
    ·simp [binOp,Op.intCmp]
    ·simp [binOp,Op.intCmp,bne]
   ·constructor <;> refine zg (by simp) (by simp) λw' _=>?_
    ·simp [binOp,Op.stringOp,beq_toListBytes]
    ·simp [binOp,Op.stringOp,beq_toListBytes]
   ·constructor <;> refine zg (by simp) (by simp) λw' _=>?_
    ·simp [binOp,Op.equal,Op.maxDepth,run_equalIn_bool' w' 9999 t _ _ hu]
    ·simp [binOp,Op.equal,Op.maxDepth,run_equalIn_bool' w' 9999 t _ _ hu]
  cases op <;> simp only [reduceCtorEq] at hc
  ·obtain ⟨q,hK,hq⟩:=eqCell_ok hx hy hc;exact ⟨_,_,hK,rfl,(fin q hq).1⟩
  ·obtain ⟨q,hK,hq⟩:=eqCell_ok hx hy hc;exact ⟨_,_,hK,rfl,(fin q hq).2⟩
 unfold evBin at h;split at h
 ·rename_i k m k' n;simp only [zA] at hx hy;subst hx;subst hy;obtain ⟨hk,hc⟩:=zB h;have hk':k=k':=by simpa using hk
  subst hk';exact intBin_ok hc
 ·simp only [zA] at hx hy;subst hx;subst hy;exact u8Bin_ok h
 ·simp only [zA] at hx hy;subst hx;subst hy;exact strBin_ok h
 ·rename_i xs ys;simp only [zA] at hx hy;obtain ⟨X,rfl,hx⟩:=hx;obtain ⟨Y,rfl,hy⟩:=hy
  cases op <;> simp only [reduceCtorEq] at h
  ·obtain ⟨q,hK,h1,_⟩:=eqAgg_ok hx hy h;exact ⟨_,_,hK,rfl,h1⟩
  ·obtain ⟨q,hK,_,h2⟩:=eqAgg_ok hx hy h;exact ⟨_,_,hK,rfl,h2⟩
 ·rename_i h1 h2 h3 h4;by_cases hxa:∃ xs,x=.agg xs
  ·obtain ⟨xs,rfl⟩:=hxa;obtain ⟨hb,hc⟩:=zB h
   cases op <;> simp only [reduceCtorEq] at hc <;> cases y <;> simp [xS] at hc
  ·exact bools hx hy (λxs hh=>hxa ⟨xs,hh⟩) h
end
end Go.Ev
