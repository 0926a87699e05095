/- Texts that the last one leans on, 7. -/
import Derived.Test.YtipfcejaekfogaaGreatDoorTF
import Derived.Defers
import Derived.Recover
noncomputable section
namespace Go.So
open Go Go.Ev Go.Proofs
set_option maxRecDepth 100000
abbrev xI:VSh:=.i .i64
abbrev xM:VSh:=.mptr 0 0
abbrev xK:VSh:=.ki .i64 0
abbrev xE:VSh:=.ks []
abbrev xP (n:Nat):VSh:=.ptr n 0
def xB:Nat->List BSh->List (Nat×BSh)
 | _,[]=>[]
 | i,b::r=>(i,b)::xB (i+1) r
def xJ (a:List (Nat×VSh)) (b:List BSh):HT:=.join [(.normal,⟨a,xB 0 b,b.length⟩)] .leaf
def xT (a:List (Nat×VSh)) (b:List BSh) (y:HT):HT:=.two (xJ a b) y
def xW (y:HT):HT:=.two .leaf y
abbrev S0:Ty:=(.pair .str (.pair (.int .i64) (.pair (.int .i64) (.pair (.sl (.pair (.int .i64) (.pair .u8 (.pair (.sl .u8) .unit)))) .unit))))
abbrev S1:Type:=((List UInt8)×(Int×(Int×((List (Int×(UInt8×((List UInt8)×Unit))))×Unit))))
abbrev S2:Ty:=(.pair (.int .i64) (.pair .u8 (.pair (.sl .u8) .unit)))
abbrev S3:Type:=(Int×(UInt8×((List UInt8)×Unit)))
abbrev S4:Type:=(List UInt8)
abbrev S5:VSh:=(.cons .s (.cons (.i .i64) (.cons (.i .i64) (.cons (.sl S2) .nil))))
abbrev S6:Ty:=(.pair .str (.pair (.int .i64) (.pair (.sl S0) .unit)))
abbrev S7:Ty:=(.pair .str (.pair (.int .i64) (.pair (.int .i64) (.pair (.sl (.ln (.pair (.int .i64) (.pair .u8 (.pair (.sl (.ln .u8)) .unit))))) .unit))))
abbrev S8:VSh:=(.cons (.i .i64) (.cons .s (.cons .s (.cons .s (.cons (.i .i64) (.cons (.i .i64) (.cons .u (.cons (.i .i64) (.cons (.i .i64) (.cons (.sl (.ln .u8)) .nil))))))))))
abbrev S9:Type:=(S4×(Int×((List S1)×Unit)))
abbrev S10:VSh:=(.cons (.i .i64) (.cons .s (.cons .s (.cons .s (.cons (.i .i64) (.cons (.i .i64) (.cons .u (.cons (.i .i64) (.cons (.i .i64) (.cons (.sl .u8) .nil))))))))))
abbrev xC:BSh:=(.vars (.cons .s (.cons (.i .i64) (.cons (.sl S0) .nil))))
abbrev S12:Ty:=(.pair (.int .i64) (.pair .str (.pair .str (.pair .str (.pair (.int .i64) (.pair (.int .i64) (.pair .u8 (.pair (.int .i64) (.pair (.int .i64) (.pair (.sl .u8) .unit))))))))))
abbrev S13:VSh:=(.cons (.ki .i64 (0)) (.cons (.ki .i64 (0)) (.cons (.own 3) .nil)))
abbrev S14:Type:=(Int×(S4×(S4×(S4×(Int×(Int×(UInt8×(Int×(Int×(S4×Unit))))))))))
abbrev S15:VSh:=(.cons .s (.cons (.i .i64) (.cons (.i .i64) (.cons (.sl (.ln (.pair (.int .i64) (.pair .u8 (.pair (.sl (.ln .u8)) .unit))))) .nil))))
abbrev S16:Type:=(S4×Int×Int×(List S3)×Unit)
abbrev xj:BSh:=(.vars (.cons (.sl S6) .nil))
abbrev S18:VSh:=(.cons (.i .i64) (.cons (.own 2) .nil))
abbrev S19:Ty:=(.pair (.int .i64) (.pair .str (.pair .str (.pair .str (.pair (.int .i64) (.pair (.int .i64) (.pair .u8 (.pair (.int .i64) (.pair (.int .i64) (.pair (.sl (.ln .u8)) .unit))))))))))
abbrev S20:VSh:=(.cons (.i .i64) .nil)
abbrev S21:VSh:=(.cons (.ki .i64 (0)) (.cons (.own 4) .nil))
abbrev S22:VSh:=(.cons .s (.cons (.i .i64) (.cons (.sl (.ln S7)) .nil)))
abbrev S23:BSh:=(.vars (.cons (.i .i64) (.cons .u (.cons (.sl .u8) .nil))))
abbrev zz:BSh:=(.data S0)
abbrev S25:BSh:=(.vars (.cons (.sl (.ln .u8)) .nil))
abbrev uh:Type:=(List S3)
abbrev tI:BSh:=(.vars (.cons (.mp 1) .nil))
abbrev S28:Type:=(Int×S4×S4×S4×Int×Int×UInt8×Int×Int×S4×Unit)
abbrev vQ:BSh:=(.mapd .str S6 true)
abbrev S30:Type:=(S4×Int×(List S1)×Unit)
abbrev yZ:BSh:=(.data S2)
abbrev S32:Type:=((List S9)×Unit)
abbrev S33:BSh:=(.vars (.cons (.sl .u8) (.cons .b .nil)))
abbrev S34:Ty:=(.pair .str (.pair (.int .i64) (.pair (.sl (.ln S7)) .unit)))
abbrev S35:BSh:=(.vars (.cons .s (.cons (.i .i64) S18)))
abbrev S36:Type:=(Unit×Unit×Unit×Unit×Unit)
abbrev S37:VSh:=(.agg (.cons .s (.cons (.i .i64) (.cons (.sl S0) .nil))))
abbrev S38:VSh:=(.cons (.ki .i64 (0)) (.cons (.own 3) .nil))
abbrev S39:BSh:=(.vars (.cons .s (.cons (.i .i64) (.cons (.i .i64) (.cons (.own 4) .nil)))))
abbrev S40:Type:=(((List (List S14))×Unit×Unit×Int×Unit)×((Unit×Unit)×S32×(List (S4×S9))×Unit))
abbrev y6:BSh:=(.vars S5)
abbrev uU:Type:=(List S1)
abbrev S43:Type:=(Unit×Unit)
abbrev S44:BSh:=(.vars (.cons .s S18))
abbrev S45:Type:=(S4×Int×Unit×Unit)
abbrev S46:Type:=(S4×Int×Int×Unit×Unit)
abbrev S47:VSh:=(.cons (.ki .i64 (0)) (.cons (.own 2) .nil))
abbrev S48:Type:=(List (S4×S9))
abbrev S49:Type:=(Int×Unit)
abbrev S50:Type:=(Unit×Unit×Unit×Unit)
abbrev S51:Type:=(S4×Unit)
abbrev S52:BSh:=(.vars (.cons .s (.cons (.i .i64) (.cons (.own 3) .nil))))
abbrev S53:VSh:=(.cons (.ki .i64 (0)) S21)
abbrev S54:BSh:=(.vars (.cons .s (.cons (.i .i64) (.cons (.own 1) .nil))))
abbrev S55:VSh:=(.cons .s .nil)
abbrev S56:VSh:=(.cons (.ki .i64 (0)) (.cons (.ki .i64 (0)) (.cons (.own 5) .nil)))
abbrev vv:Type:=(List S9)
abbrev S58:BSh:=(.vars (.cons .s (.cons (.i .i64) (.cons (.i .i64) (.cons (.own 6) .nil)))))
abbrev S59:BSh:=(.vars (.cons .s (.cons (.i .i64) (.cons (.own 4) .nil))))
abbrev S60:VSh:=(.fn 140 (.cons (.ptr 1 0) .nil))
abbrev S61:Ty:=(.pt (.ln (.pair (.sl (.ln S34)) .unit)))
abbrev S62:VSh:=(.tup (.cons (.i .i64) (.cons .b .nil)))
abbrev S63:BSh:=(.vars S10)
abbrev S64:Type:=(Bool×Unit)
abbrev S65:VSh:=(.cons (.i .i64) S20)
abbrev S66:BSh:=(.vars (.cons (.mp 2) .nil))
abbrev S67:BSh:=(.data (.int .i64))
abbrev S68:Type:=((S4×Unit×Unit×Unit×Unit×Bool×Int×Unit)×(S30×S36×(List (Bool×S1))×S16×uh×Unit))
abbrev S69:Type:=(Unit×Unit×Int×Int×Unit)
abbrev S70:BSh:=(.vars S8)
abbrev S71:VSh:=(.cons (.ptr 0 0) .nil)
abbrev S72:BSh:=(.vars (.cons .s (.cons (.i .i64) (.cons (.own 5) .nil))))
abbrev S73:BSh:=(.data (.mx S0))
abbrev S74:Ty:=(.pt (.ln (.pair (.mp .str (.ln S34) true) .unit)))
abbrev S75:Type:=(S46×S36×(List (Bool×S3))×uh×Unit)
abbrev S76:Type:=(S4×Bool×Unit)
abbrev S77:Type:=((Int×Bool×Unit)×Unit)
abbrev S78:Type:=((uU×S4×Unit×Int×Int×Int×Unit)×Unit)
abbrev S79:VSh:=(.ifc 169 (.agg S20))
abbrev S80:VSh:=(.agg S5)
abbrev S81:Type:=(S49×Unit)
abbrev S82:Type:=(S43×S48×(List Int)×Unit)
abbrev S83:Type:=(Unit×Unit×Unit)
abbrev S84:BSh:=(.vars S20)
abbrev S85:VSh:=(.fn 57 .nil)
abbrev S86:Type:=(S4×S9)
abbrev S87:VSh:=(.cons (.ki .i64 (0)) S47)
abbrev S88:Type:=(S43×S48×Unit)
abbrev S89:Type:=(S16×Int×Unit)
abbrev S90:Type:=(S51×Unit)
abbrev S91:BSh:=(.vars S22)
abbrev S92:VSh:=(.cons (.own 1) .nil)
abbrev S93:Type:=(S51×S45×uU×Unit)
abbrev S94:Type:=(S32×Unit)
abbrev S95:Type:=(S48×Unit)
abbrev S96:Type:=(List S14)
abbrev S97:Type:=(S16×Unit)
abbrev S98:Type:=(Unit×Int×Unit)
abbrev S99:Type:=(Bool×S1)
abbrev S100:VSh:=(.cons (.i .i64) (.cons (.own 0) .nil))
abbrev S101:Type:=(Unit×Int×Int×Unit)
abbrev S102:Type:=((uU×S4×Unit×Int×Int×Unit)×Unit)
abbrev S103:Type:=(S43×S32×S48×Unit)
abbrev S104:Type:=(S46×S36×uh×uh×Unit)
abbrev S105:VSh:=(.cons (.mptr 0 0) (.cons (.sl (.ln S19)) .nil))
abbrev S106:BSh:=(.data .str)
abbrev S107:BSh:=(.data .u8)
abbrev S108:VSh:=(.cons S80 .nil)
abbrev S109:Type:=(Unit×Unit×Unit×Int×Int×Unit)
abbrev CX (X:List (FuncId×Orc)) (Y:List (FuncId×(List AV->Option AV))) (Z:List (FuncId×xV)) (I:List FuncId):zW:=callX Tryz.prog (lookX X) (wH X) (wG Y) (lookZ Z) (zS I) 6
abbrev MX (X:List (FuncId×Orc)) (Y:List (FuncId×(List AV->Option AV))):=mild (wH X) (wG Y)
theorem mixed:Tryz.prog.follows .mixedOrders=true:=by kernel_rfl
theorem tj {X:List (FuncId×Orc)} {Y:List (FuncId×(List AV->Option AV))} {Z:List (FuncId×xV)} {I:List FuncId} {f:FuncId} {fn:Func} {o:Orc} {h:HT} {ls:List LoopRec} (hrun:∀ p,zQ Tryz.prog (CX X Y Z I) (MX X Y) fn h o p=o.run p)
  (hf:Tryz.prog.funcs[f]?=some fn) (hen:Ev.Enters Tryz.prog f) (hl:AllL Tryz.prog (CX X Y Z I) (MX X Y) o.blks.length fn.ntmps ls) (hX:AllX Tryz.prog X:=by trivial) (hY:AllY Tryz.prog Y:=by trivial) (hZ:AllZ Tryz.prog Z:=by trivial) (hI:AllI Tryz.prog I:=by trivial)
  (hap:apartL X Y Z I=true:=by kernel_rfl) (hc:fn.body=some (zD fn):=by kernel_rfl) (hfit:o.fits=true:=by kernel_rfl) (hls:zx (zD fn) (xY h)=ls:=by kernel_rfl):o.OK Tryz.prog f :=
 ok_of mixed hX hY hZ hI hap hf hen hc hfit hls hl hrun
theorem vh {X:List (FuncId×Orc)} {Y:List (FuncId×(List AV->Option AV))} {Z:List (FuncId×xV)} {I:List FuncId} {f:FuncId} {fn:Func} {o:Orc} {h:HT} (hrun:∀ p,zQ Tryz.prog (CX X Y Z I) (MX X Y) fn h o p=o.run p)
  (hf:Tryz.prog.funcs[f]?=some fn) (hen:Ev.Enters Tryz.prog f) (hX:AllX Tryz.prog X:=by trivial) (hY:AllY Tryz.prog Y:=by trivial) (hZ:AllZ Tryz.prog Z:=by trivial) (hI:AllI Tryz.prog I:=by trivial)
  (hap:apartL X Y Z I=true:=by kernel_rfl) (hc:fn.body=some (zD fn):=by kernel_rfl) (hfit:o.fits=true:=by kernel_rfl) (hls:zx (zD fn) (xY h)=[]:=by kernel_rfl):o.OK Tryz.prog f :=
 ok_of mixed hX hY hZ hI hap hf hen hc hfit hls trivial hrun
abbrev yV:=(([]:List UInt8),((0:Int),((0:Int),(([]:uh),()))))
abbrev wB:=((0:Int),((0:UInt8),(([]:S4),())))
abbrev tC:=(([]:List UInt8),((0:Int),(([]:uU),())))
abbrev k43:=((0:Int),(([]:List UInt8),(([]:List UInt8),(([]:List UInt8),((0:Int),((0:Int),((0:UInt8),((0:Int),((0:Int),(([]:S4),()))))))))))
abbrev k44:=(([]:List UInt8),(0:Int),(0:Int),([]:List S3),())
abbrev k45:=(([]:List UInt8),(0:Int),(),())
abbrev k46:=(([]:List UInt8),(0:Int),([]:List S1),())
def F132 (p:S98×S90):Option ((S4⊕S49)×S90):=(Option.bind (cond (decide ((p.2.1.1.length:Int)<p.1.2.1)) (some (Sum.inr ((((),()),()),p.2))) (some (Sum.inl p))) λp1=>(match p1 with | Sum.inl p2=>(cond (((decide ((0:Int)<=p2.1.2.1))&&(decide (p2.1.2.1<=p2.1.2.1)))&&(decide (p2.1.2.1<=(p2.2.1.1.length:Int)))) (Option.bind (cond (((decide ((0:Int)<=p2.1.2.1))&&(decide (p2.1.2.1<=(p2.2.1.1.length:Int))))&&(decide ((p2.2.1.1.length:Int)<=(p2.2.1.1.length:Int)))) (some (((),(List.take p2.1.2.1.toNat p2.2.1.1),()),(((List.take ((Int.toNat (p2.2.1.1.length:Int))-p2.1.2.1.toNat) (List.drop p2.1.2.1.toNat p2.2.1.1)),()),()))) none) λp3=>((some ((Sum.inl p3.1.2.1),p3.2)))) none) | Sum.inr q2=>(some ((Sum.inr ((3:Int),())),q2.2))))
def O132:Orc:=⟨(.cons (.ptr 0 0) S20),[(0,S25)],(.may (.sl (.ln .u8)) S79),[(0,S25)],F132⟩
def H132:HT:=(xW (.two (.join [(.normal,⟨[(0,(xP 0)),(1,xI)],[(0,S25)],1⟩),(.pan,⟨[(0,(.ifc 169 (.agg (.cons (.ki .i64 (3)) .nil))))],[(0,S25)],1⟩)] .leaf) (xW (xT [(0,(xP 0)),(5,(.sl (.ln .u8)))] [S25] (xT [(0,(xP 0)),(4,(.sl (.ln .u8)))] [S25] .leaf)))))
theorem run132 (p):zQ Tryz.prog (CX [] [] [] []) (MX [] []) Tryz.f132 H132 O132 p=F132 p:=by kernel_rfl
theorem ok132:O132.OK Tryz.prog 132:=vh run132 Tryz.func132 Tryz.call132
def S98_0:Shape:=⟨[(0,(.ptr 0 0)),(5,(.i .i64)),(10,(.sl (.ln .u8))),(11,(.i .i64)),(12,(.i .i64))],[(0,S25)],1⟩
def U98_0:yD:=[((.exit 0),⟨[(0,(.ptr 0 0)),(5,(.i .i64))],[(0,S25)],1⟩)]
abbrev T98_0:Type:=((Unit×Int×S4×Int×Int×Unit)×S90)
abbrev R98_0:Type:=(S98×S90)
def B98_0 (p:T98_0):Option (T98_0⊕R98_0):=(cond (decide (p.1.2.2.2.2.1<p.1.2.2.2.1)) (cond ((decide ((0:Int)<=p.1.2.2.2.2.1))&&(decide (p.1.2.2.2.2.1<(p.1.2.2.1.length:Int)))) (((some (Sum.inl (((),(wu .or .i64 (zh (p.1.2.1*2^8)) ((UInt8.toNat (List.getD p.1.2.2.1 p.1.2.2.2.2.1.toNat (0:UInt8)):Nat):Int)),p.1.2.2.1,p.1.2.2.2.1,(zh (p.1.2.2.2.2.1+(1:Int))),()),p.2))))) none) (some (Sum.inr (((),p.1.2.1,()),p.2))))
def L98_0 (p:T98_0):Option R98_0:=zY B98_0 p
def H98_0:HT:=(xW (xW (.two (.one (xW (xJ [(0,(xP 0)),(5,xI),(10,(.sl (.ln .u8))),(11,xI),(12,xI)] [S25]))) (xJ [(0,(xP 0)),(5,xI),(10,(.sl (.ln .u8))),(11,xI),(12,xI)] [S25]))))
def F98 (p:S98×S90):Option ((Int⊕S49)×S90):=(Option.bind (Option.bind (F132 p) λr1=>(match r1.1 with | Sum.inl r1a=>(Option.bind (L98_0 (((),(0:Int),r1a,(r1a.length:Int),(0:Int),()),r1.2)) λp4=>(some (Sum.inl p4))) | Sum.inr r1b=>(some (Sum.inr (((r1b.1,()),()),r1.2))))) λp5=>(match p5 with | Sum.inl p6=>(some ((Sum.inl p6.1.2.1),p6.2)) | Sum.inr q6=>(some ((Sum.inr q6.1.1),q6.2))))
def O98:Orc:=⟨(.cons (.ptr 0 0) S20),[(0,S25)],(.may (.i .i64) S79),[(0,S25)],F98⟩
def H98:HT:=(xW (xW (.two (.join [(.normal,⟨[(0,(xP 0)),(5,xI)],[(0,S25)],1⟩),(.pan,⟨[(0,S79)],[(0,S25)],1⟩)] (xW (.one (.loop S98_0 U98_0 L98_0 H98_0)))) .leaf)))
def X98:List (FuncId×Orc):=[(132,O132)]
theorem round98_0 (p):round Tryz.prog (CX X98 [] [] []) (MX X98 []) 1 23 (zU (zD Tryz.f98) [true,true,false,true,false,false]) H98_0 S98_0 U98_0 p=B98_0 p:=by kernel_rfl
theorem run98 (p):zQ Tryz.prog (CX X98 [] [] []) (MX X98 []) Tryz.f98 H98 O98 p=F98 p:=by kernel_rfl
theorem ok98:O98.OK Tryz.prog 98:=tj run98 Tryz.func98 Tryz.call98 (ls:=[⟨zU (zD Tryz.f98) [true,true,false,true,false,false],H98_0,S98_0,U98_0,L98_0⟩]) ⟨LoopRec.of rfl round98_0,trivial⟩ (hX:=⟨ok132,trivial⟩)
def F97 (p:S43×S90):Option ((S4⊕S49)×S90):=(Option.bind (F98 (((),(1:Int),()),p.2)) λr1=>(match r1.1 with | Sum.inl r1a=>(Option.bind (F132 (((),r1a,()),r1.2)) λr2=>(match r2.1 with | Sum.inl r2a=>(some ((Sum.inl r2a),r2.2)) | Sum.inr r2b=>(some ((Sum.inr (r2b.1,())),r2.2)))) | Sum.inr r1b=>(some ((Sum.inr (r1b.1,())),r1.2))))
def O97:Orc:=⟨S71,[(0,S25)],(.may .s S79),[(0,S25)],F97⟩
def X97:List (FuncId×Orc):=[(98,O98),(132,O132)]
theorem run97 (p):zQ Tryz.prog (CX X97 [] [] []) (MX X97 []) Tryz.f97 .leaf O97 p=F97 p:=by kernel_rfl
theorem ok97:O97.OK Tryz.prog 97:=vh run97 Tryz.func97 Tryz.call97 (hX:=⟨ok98,⟨ok132,trivial⟩⟩)
def F53 (p:S51×Unit):Option (Unit×S51):=(cond (List.isEmpty p.1.1) (agr (some ((),(([]:List UInt8),()))) (cond (zH (0+(List.length p.1.1)) 1) (some ((),((([]:List UInt8)++p.1.1),()))) none)) (cond (zH (0+(List.length p.1.1)) 1) (some ((),((([]:List UInt8)++p.1.1),()))) none))
def O53:Orc:=⟨(.cons (.sl (.ln .u8)) .nil),[],(.own 0),[(0,S107)],F53⟩
theorem run53 (p):zQ Tryz.prog (CX [] [] [] []) (MX [] []) Tryz.f53 .leaf O53 p=F53 p:=by kernel_rfl
theorem ok53:O53.OK Tryz.prog 53:=vh run53 Tryz.func53 Tryz.call53
def F99 (p:S43×S90):Option ((S4⊕S49)×S90):=(Option.bind (F98 (((),(2:Int),()),p.2)) λr1=>(match r1.1 with | Sum.inl r1a=>(Option.bind (F132 (((),r1a,()),r1.2)) λr2=>(match r2.1 with | Sum.inl r2a=>(Option.bind (F53 ((r2a,()),())) λr3=>(some ((Sum.inl r3.2.1),r2.2))) | Sum.inr r2b=>(some ((Sum.inr (r2b.1,())),r2.2)))) | Sum.inr r1b=>(some ((Sum.inr (r1b.1,())),r1.2))))
def O99:Orc:=⟨S71,[(0,S25)],(.may (.sl .u8) S79),[(0,S25)],F99⟩
def X99:List (FuncId×Orc):=[(53,O53),(98,O98),(132,O132)]
theorem run99 (p):zQ Tryz.prog (CX X99 [] [] []) (MX X99 []) Tryz.f99 .leaf O99 p=F99 p:=by kernel_rfl
theorem ok99:O99.OK Tryz.prog 99:=vh run99 Tryz.func99 Tryz.call99 (hX:=⟨ok53,⟨ok98,⟨ok132,trivial⟩⟩⟩)
def S96_1:Shape:=⟨[(0,(.ptr 0 0)),(1,(.ptr 1 0)),(3,(.ptr 3 0)),(12,(.i .i64)),(13,(.i .i64)),(23,(.i .i64)),(24,(.i .i64))],[(0,S25),(1,S44),(2,zz),(3,S39),(4,yZ)],5⟩
def U96_1:yD:=[((.exit 2),⟨[(0,(.ptr 0 0)),(1,(.ptr 1 0)),(3,(.ptr 3 0)),(12,(.i .i64)),(13,(.i .i64))],[(0,S25),(1,S44),(2,zz),(3,S39),(4,yZ)],5⟩),(.pan,⟨[(0,S79)],[(0,S25),(1,S44),(2,zz)],3⟩)]
abbrev T96_1:Type:=((Unit×Unit×Unit×Int×Int×Int×Int×Unit)×(S51×S45×uU×S46×uh×Unit))
abbrev R96_1:Type:=((S109×(S51×S45×uU×S46×uh×Unit))⊕(S81×S93))
def u0 (p:T96_1):Option (T96_1⊕R96_1):=(cond (decide (p.1.2.2.2.2.2.2.1<p.1.2.2.2.2.2.1)) (Option.bind (F98 (((),(4:Int),()),(p.2.1,()))) λr8=>(match r8.1 with | Sum.inl r8a=>(Option.bind (F98 (((),(1:Int),()),r8.2)) λr9=>(match r9.1 with | Sum.inl r9a=>(Option.bind (F99 (((),()),r9.2)) λr10=>(match r10.1 with | Sum.inl r10a=>(Option.bind (cond (zH ((List.length p.2.2.2.2.2.1)+(List.length ([(r8a,((u8of r9a),(r10a,())))]:List S3))) 40) (some (((),(),(),p.1.2.2.2.1,p.1.2.2.2.2.1,p.1.2.2.2.2.2),(r10.2.1,p.2.2.1,p.2.2.2.1,p.2.2.2.2.1,(p.2.2.2.2.2.1++([(r8a,((u8of r9a),(r10a,())))]:List S3)),()))) none) λp11=>((some (Sum.inl (((),(),(),p11.1.2.2.2.1,p11.1.2.2.2.2.1,p11.1.2.2.2.2.2.1,(zh (p11.1.2.2.2.2.2.2.1+(1:Int))),()),p11.2))))) | Sum.inr r10b=>(some (Sum.inr (Sum.inr (((r10b.1,()),()),(r10.2.1,p.2.2.1,p.2.2.2.1,()))))))) | Sum.inr r9b=>(some (Sum.inr (Sum.inr (((r9b.1,()),()),(r9.2.1,p.2.2.1,p.2.2.2.1,()))))))) | Sum.inr r8b=>(some (Sum.inr (Sum.inr (((r8b.1,()),()),(r8.2.1,p.2.2.1,p.2.2.2.1,()))))))) (some (Sum.inr (Sum.inl (((),(),(),p.1.2.2.2.1,p.1.2.2.2.2.1,()),(p.2.1,p.2.2.1,p.2.2.2.1,p.2.2.2.2))))))
def L96_1 (p:T96_1):Option R96_1:=zY u0 p
def H96_1:HT:=(xW (xW (.two (.one (xW (xW (xJ [(0,(xP 0)),(1,(xP 1)),(3,(xP 3)),(12,xI),(13,xI),(23,xI),(24,xI)] [S25,S44,zz,S39,yZ])))) (xJ [(0,(xP 0)),(1,(xP 1)),(3,(xP 3)),(12,xI),(13,xI),(23,xI),(24,xI)] [S25,S44,zz,S39,yZ]))))
def S96_0:Shape:=⟨[(0,(.ptr 0 0)),(1,(.ptr 1 0)),(12,(.i .i64)),(13,(.i .i64))],[(0,S25),(1,S44),(2,zz)],3⟩
def U96_0:yD:=[((.exit 0),⟨[(0,(.ptr 0 0)),(1,(.ptr 1 0))],[(0,S25),(1,S44),(2,zz)],3⟩),(.pan,⟨[(0,S79)],[(0,S25),(1,S44),(2,zz)],3⟩)]
abbrev T96_0:Type:=(S69×S93)
abbrev R96_0:Type:=((S83×S93)⊕(S81×S93))
def vB (p:T96_0):Option (T96_0⊕R96_0):=(cond (decide (p.1.2.2.2.1<p.1.2.2.1)) (Option.bind (Option.bind (F97 (((),()),(p.2.1,()))) λr4=>(match r4.1 with | Sum.inl r4a=>(Option.bind (F98 (((),(4:Int),()),r4.2)) λr5=>(match r5.1 with | Sum.inl r5a=>(Option.bind (F98 (((),(4:Int),()),r5.2)) λr6=>(match r6.1 with | Sum.inl r6a=>(Option.bind (Option.bind (F98 (((),(1:Int),()),r6.2)) λr7=>(match r7.1 with | Sum.inl r7a=>(Option.bind (L96_1 (((),(),(),p.1.2.2.1,p.1.2.2.2.1,r7a,(0:Int),()),(r7.2.1,p.2.2.1,p.2.2.2.1,(r4a,r5a,r6a,(),()),([]:List S3),()))) λp13=>(match p13 with | Sum.inl p14=>(some (Sum.inl p14)) | Sum.inr q14=>(some (Sum.inr q14)))) | Sum.inr r7b=>(some (Sum.inr (((r7b.1,()),()),(r7.2.1,p.2.2)))))) λp15=>(match p15 with | Sum.inl p16=>(Option.bind (cond (zH ((List.length p16.2.2.2.1)+(List.length ([(p16.2.2.2.2.1.1,(p16.2.2.2.2.1.2.1,(p16.2.2.2.2.1.2.2.1,p16.2.2.2.2.2)))]:List S1))) 56) (some (p16.1.2,(p16.2.1,p16.2.2.1,(p16.2.2.2.1++([(p16.2.2.2.2.1.1,(p16.2.2.2.2.1.2.1,(p16.2.2.2.2.1.2.2.1,p16.2.2.2.2.2)))]:List S1)),()))) none) λp17=>(some (Sum.inl p17))) | Sum.inr q16=>(some (Sum.inr q16)))) | Sum.inr r6b=>(some (Sum.inr (((r6b.1,()),()),(r6.2.1,p.2.2)))))) | Sum.inr r5b=>(some (Sum.inr (((r5b.1,()),()),(r5.2.1,p.2.2)))))) | Sum.inr r4b=>(some (Sum.inr (((r4b.1,()),()),(r4.2.1,p.2.2)))))) λp18=>(match p18 with | Sum.inl p19=>(some (Sum.inl (((),(),p19.1.2.2.1,(zh (p19.1.2.2.2.1+(1:Int))),()),p19.2))) | Sum.inr q19=>(some (Sum.inr (Sum.inr q19))))) (some (Sum.inr (Sum.inl (((),(),()),(p.2.1,p.2.2))))))
def L96_0 (p:T96_0):Option R96_0:=zY vB p
def H96_0:HT:=(xW (xW (.two (.join [(.normal,⟨[(0,(xP 0)),(1,(xP 1)),(12,xI),(13,xI)],[(0,S25),(1,S44),(2,zz)],3⟩),(.pan,⟨[(0,S79)],[(0,S25),(1,S44),(2,zz)],3⟩)] (.one (xW (.two (.join [(.normal,⟨[(0,(xP 0)),(1,(xP 1)),(3,(xP 3)),(12,xI),(13,xI)],[(0,S25),(1,S44),(2,zz),(3,S39),(4,yZ)],5⟩),(.pan,⟨[(0,S79)],[(0,S25),(1,S44),(2,zz)],3⟩)] (xW (.one (.loop S96_1 U96_1 L96_1 H96_1)))) (xJ [(0,(xP 0)),(1,(xP 1)),(12,xI),(13,xI)] [S25,S44,zz]))))) .leaf)))
def F96 (p:S83×S93):Option ((Unit⊕S49)×S93):=(Option.bind (F97 (((),()),(p.2.1,()))) λr1=>(match r1.1 with | Sum.inl r1a=>(Option.bind (F98 (((),(4:Int),()),r1.2)) λr2=>(match r2.1 with | Sum.inl r2a=>(Option.bind (F98 (((),(1:Int),()),r2.2)) λr3=>(match r3.1 with | Sum.inl r3a=>(Option.bind (L96_0 (((),(),r3a,(0:Int),()),(r3.2.1,(r1a,r2a,(),()),p.2.2.2))) λp20=>(match p20 with | Sum.inl p21=>(some ((Sum.inl ()),p21.2)) | Sum.inr q21=>(some ((Sum.inr q21.1.1),q21.2)))) | Sum.inr r3b=>(some ((Sum.inr (r3b.1,())),(r3.2.1,(r1a,r2a,(),()),p.2.2.2))))) | Sum.inr r2b=>(some ((Sum.inr (r2b.1,())),(r2.2.1,p.2.2))))) | Sum.inr r1b=>(some ((Sum.inr (r1b.1,())),(r1.2.1,p.2.2)))))
def O96:Orc:=⟨(.cons (.ptr 0 0) (.cons (.ptr 1 0) .nil)),[(0,S25),(1,S44),(2,zz)],(.may (.tup .nil) S79),[(0,S25),(1,S44),(2,zz)],F96⟩
def H96:HT:=(xW (xW (.one (.loop S96_0 U96_0 L96_0 H96_0))))
def X96:List (FuncId×Orc):=[(97,O97),(98,O98),(99,O99)]
theorem round96_1 (p):round Tryz.prog (CX X96 [] [] []) (MX X96 []) 3 49 (zU (zD Tryz.f96) [true,true,false,false,true,true,false,false,true,false,true,false,false]) H96_1 S96_1 U96_1 p=u0 p:=by kernel_rfl
theorem round96_0 (p):round Tryz.prog (CX X96 [] [] []) (MX X96 []) 3 49 (zU (zD Tryz.f96) [true,true,false,false]) H96_0 S96_0 U96_0 p=vB p:=by kernel_rfl
theorem run96 (p):zQ Tryz.prog (CX X96 [] [] []) (MX X96 []) Tryz.f96 H96 O96 p=F96 p:=by kernel_rfl
theorem ok96:O96.OK Tryz.prog 96:=tj run96 Tryz.func96 Tryz.call96 (ls:=[⟨zU (zD Tryz.f96) [true,true,false,false],H96_0,S96_0,U96_0,L96_0⟩,⟨zU (zD Tryz.f96) [true,true,false,false,true,true,false,false,true,false,true,false,false],H96_1,S96_1,U96_1,L96_1⟩]) ⟨LoopRec.of rfl round96_0,⟨LoopRec.of rfl round96_1,trivial⟩⟩ (hX:=⟨ok97,⟨ok98,⟨ok99,trivial⟩⟩⟩)
end Go.So
end
namespace Go.So
open Go Go.Proofs
set_option maxRecDepth 100000
theorem mixedQ:Tryz.prog.follows .mixedOrders=true:=by kernel_rfl
theorem tm130 (p:Option Addr) (x:Value):(#[Value.pointer p]++((Array.replicate 17 undef).setIfInBounds 3 x).setIfInBounds 0 x) =
  #[.pointer p,x,undef,undef,x,undef,undef,undef,undef,undef,undef,undef,undef,undef,undef,undef,undef,undef]:=by rfl
def flt (c:Int):Value:=.iface 169 (.agg #[.int .i64 c])
theorem idle130 (p:Addr) (w:World) :
  CallsD Tryz.prog 130 #[.pointer (some p)] .returning w λe u' w'=>e=.returned (.tuple #[])/\u'=.returning/\w'=w.alloc (.cells #[.int .i64 0] 169):=by
 have hta:∀ w:World,(Instr.typeAssert .nilIface 20 169 true).run Tryz.prog w=.ok (.tuple #[.agg #[.int .i64 0],.bool false]) w:=λw=>by kernel_rfl
 refine callsD_of_wpS Tryz.func130 rfl λc₀ cs hu=>?_
 apply wpS_seq;apply wpS_region;simp [wpOpsS,go_sem,recoverD,hu,Tryz.ntmps130,Exit.thenS];refine wpS_of_wp ?_;rw [tm130]
 go_wp2
 cases c₀;simp_all [bodyPostS,results,Tryz.results130]
theorem busy130 (n:Nat) (c:Int) (w:World) (v1:Value) (hn:n<w.heap.size) (h1:w.cell? ⟨n,0,none⟩=some v1) (h3:w.frozen? ⟨n,0,none⟩=false) :
  CallsD Tryz.prog 130 #[.pointer (some ⟨n,0,none⟩)] (.panicking [{ v:=flt c,recovered:=false }]) w λe u' w'=>e=.returned (.tuple #[])/\u'=.panicking [{ v:=flt c,recovered:=true }]/\w'=(w.setCell ⟨n,0,none⟩ (.int .i64 c)).alloc (.cells #[.int .i64 c] 169):=by
 have hta:∀ w:World,(Instr.typeAssert (.iface 169 (.agg #[.int .i64 c])) 20 169 true).run Tryz.prog w=.ok (.tuple #[.agg #[.int .i64 c],.bool true]) w:=λw=>by kernel_rfl
 have f1:(w.alloc (.cells #[.int .i64 c] 169)).cell? ⟨n,0,none⟩=some v1:=(World.cell?_alloc_past _ _ _ hn).trans h1;have f2:(w.alloc (.cells #[.int .i64 c] 169)).frozen? ⟨n,0,none⟩=false:=(World.frozen?_alloc_past _ _ _ hn).trans h3;unfold flt;refine callsD_of_wpS Tryz.func130 rfl λc₀ cs hu=>?_
 apply wpS_seq;apply wpS_region;simp [wpOpsS,go_sem,recoverD,hu,Tryz.ntmps130,Exit.thenS];refine wpS_of_wp ?_;rw [tm130]
 go_wp2
 cases c₀;simp_all [bodyPostS,results,Tryz.results130]
theorem must_true (w:World):Calls Tryz.prog 131 #[.bool true] w λe w'=>e=.returned (.tuple #[])/\w'=w:=by
 have mixed:=mixedQ
 go_enter Tryz.func131,Tryz.ntmps131
 go_wp2
 simp [bodyPost,results,Tryz.results131]
theorem must_false (w:World):Calls Tryz.prog 131 #[.bool false] w λe w'=>e=.panicked [{ v:=flt 4,recovered:=false }]/\w'=w:=by
 have mixed:=mixedQ
 go_enter Tryz.func131,Tryz.ntmps131
 go_wp2
 have hp:(Instr.panic (.iface 169 (.agg #[.int .i64 4]))).run Tryz.prog w=.halt (.panic (.iface 169 (.agg #[.int .i64 4]))) w:=rfl;rw [hp];show Oper.upon Tryz.prog _ _ _ _ (.halt (.panic (.iface 169 (.agg #[.int .i64 4]))) w);rw [Oper.upon_panic];show bodyPost Tryz.prog Tryz.f131 _ _ _ _;simp [bodyPost,flt]
def w95 (w:World) (v:Value):World:=(w.alloc (.cells #[.int .i64 0] 26)).alloc (.cells #[v] 172)
def R96 (w:World) (v:Value) (G:Nat->World->Prop) (B:Int->World->Prop) (e:Ending) (w':World):Prop :=
 w.heap.size+2<=w'.heap.size/\w'.heap[w.heap.size]?=(w95 w v).heap[w.heap.size]? /\
 ((e=.returned (.tuple #[])/\∃ a2 n2 c2,w'.cell? ⟨w.heap.size+1,0,none⟩=some (.slice a2 n2 c2)/\G n2 w')\/(∃ c,e=.panicked [{ v:=flt c,recovered:=false }]/\B c w'))
def End95 (w w' w'':World):Prop :=
 w''.heap.size=w'.heap.size+1/\w''.os=w'.os/\w''.tape=w'.tape/\w''.output=w'.output/\∀ g,g<w'.heap.size->g≠w.heap.size->w''.heap[g]?=w'.heap[g]?
theorem end_of (w w':World) (x:Value) (o:Array Value) (t:TypeId):End95 w w' ((w'.setCell ⟨w.heap.size,0,none⟩ x).alloc (.cells o t)):=by
 refine ⟨by simp [World.setCell,World.alloc],rfl,rfl,rfl,λg hg hne=>?_⟩;show ((World.setCell _ _ _).heap.push _)[g]?=_;simp only [World.setCell];rw [Array.getElem?_push,if_neg (by simp only [Array.size_modify];omega),Array.getElem?_modify,if_neg (λh=>hne h.symm)]
theorem cell95 {w w':World} {v:Value} (h:w'.heap[w.heap.size]?=(w95 w v).heap[w.heap.size]?):w'.cell? ⟨w.heap.size,0,none⟩=some (.int .i64 0)/\w'.frozen? ⟨w.heap.size,0,none⟩=false:=by
 rw [Ev.cell?_of_heap h,Ev.frozen?_of_heap h];simp [w95,go_sem]
theorem set95 {w w':World} {x:Value} {y:Value} {o:Array Value} {t:TypeId} (hs:w.heap.size+2<=w'.heap.size) (h:w'.cell? ⟨w.heap.size,0,none⟩=some x):((w'.setCell ⟨w.heap.size,0,none⟩ y).alloc (.cells o t)).cell? ⟨w.heap.size,0,none⟩=some y:=by
 rw [World.cell?_alloc_past _ _ _ (by simp [World.setCell];omega),World.cell?_setCell_same _ _ _ h]
theorem walk95 (w:World) (a:Option Addr) (n c:Nat) (P:Option Addr) (G:Nat->World->Prop) (B:Int->World->Prop)
  (hc:Calls Tryz.prog 96 #[.pointer (some ⟨w.heap.size+1,0,none⟩),.pointer P] (w95 w (.slice a n c)) (R96 w (.slice a n c) G B)) :
  Calls Tryz.prog 95 #[.slice a n c,.func (.func 96) #[] #[.pointer P]] w λe w'' =>
   (∃ w',G 0 w'/\e=.returned (.int .i64 0)/\End95 w w' w'')\/(∃ n2 w',n2≠0/\G n2 w'/\e=.returned (.int .i64 4)/\End95 w w' w'')\/(∃ c w',B c w'/\e=.returned (.int .i64 c)/\End95 w w' w''):=by
 have hmf:∀ (fn:Fn) (first cap:Array Value) (w:World),(Instr.makeFunc fn first cap).run Tryz.prog w=.ok (.func fn first cap) w:=λ_ _ _ _=>rfl
 have hc':Calls Tryz.prog 96 #[.pointer (some ⟨w.heap.size+1,0,none⟩),.pointer P] ((w.alloc (.cells #[.int .i64 0] 26)).alloc (.cells #[.slice a n c] 172)) (R96 w (.slice a n c) G B):=hc;clear hc;have e131:=Tryz.call131;have e96:=Tryz.call96
 go_enter_defers Tryz.func95,Tryz.ntmps95
 go_wp2_with (refine hc'.mono ?_;rintro e w' ⟨hs,k1,⟨rfl,a2,n2,q2,k3,k4⟩ | ⟨c,rfl,k4⟩⟩ <;> (obtain ⟨c1,f1⟩:=cell95 k1))
 ·by_cases hn:n2=0
  ·subst hn;have hb:(((0:Nat):Int) == 0)=true:=by rfl
   rw [hb];refine (must_true _).mono ?_;rintro e w2 ⟨rfl,rfl⟩
   go_wp2
   refine leaves_cons (f:=130) (args:=#[.pointer (some ⟨w.heap.size,0,none⟩)]) (by simp) (by simp [go_sem]) ?_;refine (idle130 _ _).mono ?_;rintro e u' w3 ⟨rfl,rfl,rfl⟩;have d1:=set95 (w:=w) (w':=w2) (y:=.int .i64 0) (o:=#[.int .i64 0]) (t:=169) hs c1;simp [Leaves,settle,results,Tryz.results95,go_sem,d1];exact .inl ⟨w2,k4,end_of w w2 _ _ _⟩
  ·have hb:(((n2:Nat):Int) == 0)=false:=by simpa using hn
   rw [hb];refine (must_false _).mono ?_;rintro e w2 ⟨rfl,rfl⟩;refine leaves_cons (f:=130) (args:=#[.pointer (some ⟨w.heap.size,0,none⟩)]) (by simp) (by simp [go_sem]) ?_;refine (busy130 w.heap.size 4 w2 _ (by omega) c1 f1).mono ?_;rintro e u' w3 ⟨rfl,rfl,rfl⟩;have d1:=set95 (w:=w) (w':=w2) (y:=.int .i64 4) (o:=#[.int .i64 4]) (t:=169) hs c1;simp [Leaves,settle,results,Tryz.results95,go_sem,d1];obtain ⟨m,rfl⟩:∃ m,n2=m+1:=⟨n2-1,by omega⟩;exact .inl ⟨m,w2,k4,end_of w w2 _ _ _⟩
 ·refine leaves_cons (f:=130) (args:=#[.pointer (some ⟨w.heap.size,0,none⟩)]) (by simp) (by simp [go_sem]) ?_;refine (busy130 w.heap.size c w' _ (by omega) c1 f1).mono ?_;rintro e u' w3 ⟨rfl,rfl,rfl⟩;have d1:=set95 (w:=w) (w':=w') (y:=.int .i64 c) (o:=#[.int .i64 c]) (t:=169) hs c1;simp [Leaves,settle,results,Tryz.results95,go_sem,d1];exact .inr (.inr ⟨c,w',k4,rfl,end_of w w' _ _ _⟩)
end Go.So
namespace Go.So
open Go Go.Ev Go.Proofs
set_option maxRecDepth 100000
abbrev LetT:Ty:=.pair (.int .i64) (.pair .u8 (.pair (.sl .u8) .unit))
abbrev BoxT0:Ty:=.pair .str (.pair (.int .i64) (.pair (.int .i64) (.pair (.sl LetT) .unit)))
noncomputable def rdR (l:List UInt8):=F96 (((),(),()),((l,()),([],0,(),()),[],()))
noncomputable def rdOK (l:List UInt8):Bool :=
 match rdR l with
 | some _=>true
 | none=>false
noncomputable def vm (l:List UInt8):List UInt8×Int×List BoxT0.den×Unit :=
 match rdR l with
 | some (_,q)=>(q.2.1.1,q.2.1.2.1,q.2.2.1,())
 | none=>([],0,[],())
noncomputable def rdE (l:List UInt8):Int :=
 match rdR l with
 | some (Sum.inl _,q)=>if q.1.1.length=0 then 0 else 4
 | some (Sum.inr c,_)=>c.1
 | none=>0
noncomputable def zRead:xV:=λargs S =>
 match args with
 | [.sl (.ln .u8) l,.fn 96 [.ptr b 0]]=>match S.H b with
  | .vars [.s n,.i .i64 z,.c u]=>cond (ux u) (some ((List.isEmpty n&&decide (z=0))&&rdOK l,.i .i64 (rdE l),⟨S.E,zp S.H b (.vars [.s (vm l).1,.i .i64 (vm l).2.1,.sl BoxT0 (vm l).2.2.1]),S.nx,S.kl⟩)) none
  | _=>none
 | _=>none
theorem w95_size (w:World) (v:Value):(w95 w v).heap.size=w.heap.size+2:=by
 show ((w.heap.push _).push _).size=_;simp only [Array.size_push]
theorem w95_old (w:World) (v:Value) {g:Nat} (h:g<w.heap.size):(w95 w v).heap[g]?=w.heap[g]?:=by
 show ((w.heap.push _).push _)[g]?=_;rw [Array.getElem?_push,if_neg (by simp only [Array.size_push];omega),Array.getElem?_push,if_neg (by omega)]
theorem w95_new (w:World) (v:Value):(w95 w v).heap[w.heap.size+1]?=some (.cells #[v] 172 (0,0)):=by
 show ((w.heap.push _).push _)[w.heap.size+1]?=_;rw [Array.getElem?_push,if_pos (by simp only [Array.size_push])]
theorem w95_cell (w:World) (v:Value) (i:Nat):(w95 w v).cell? ⟨w.heap.size+1,i,none⟩=#[v][i]?:=by
 unfold w95;rw [World.cell?_alloc_at _ _ _ _ (by show _=(w.heap.push _).size;simp only [Array.size_push])]
theorem w95_frozen (w:World) (v:Value) (i:Nat):(w95 w v).frozen? ⟨w.heap.size+1,i,none⟩=false:=by
 unfold w95;rw [World.frozen?_alloc_at _ _ _ _ (by show _=(w.heap.push _).size;simp only [Array.size_push])]
def F6' {P:Program} (F:Frm (zJ P)) (μ:Nat->Option Nat) (H:Nat->Blk) (w:World) (g:Nat):Frm (zJ P) :=
 { out:=λk=>F k\/(wy μ H k/\k≠g)\/k=w.heap.size,hot:=λk=>F.hot k\/(wy μ H k/\k≠g)\/k=w.heap.size,le:=λk h=>h.imp (F.le k) id,reg:=F.reg,unf:=F.unf }
def N6 {P:Program} (F:Frm (zJ P)) (μ:Nat->Option Nat) (H:Nat->Blk) (w:World) (g:Nat):NN :=
 ⟨λk=>(F6' F μ H w g k)\/k=w.heap.size+1\/k=g,λk=>(F6' F μ H w g).hot k\/k=w.heap.size+1\/k=g,λk h=>h.imp ((F6' F μ H w g).le k) id,F.reg,F.unf⟩
def μ6 (w:World) (g:Nat):Nat->Option Nat:=λb=>if b=0 then some (w.heap.size+1) else if b=1 then some g else none
theorem μ6_some {w:World} {g b k:Nat} (h:μ6 w g b=some k):(b=0/\k=w.heap.size+1)\/(b=1/\k=g):=by
 unfold μ6 at h;split at h
 ·cases h;exact .inl ⟨by assumption,rfl⟩
 ·split at h
  ·cases h;exact .inr ⟨by assumption,rfl⟩
  ·cases h
abbrev q0 (l:List UInt8):yc O96.blks:=((l,()),([],0,(),()),[],())
theorem H96_dead {l:List UInt8} {b:Nat} (h0:b≠0) (h1:b≠1) (h2:b≠2):zT O96.blks (q0 l) b=.dead:=by
 show zp (zp (zp (λ_=>.dead) 2 _) 1 _) 0 _ b=.dead;rw [zX h0,zX h1,zX h2]
theorem in96 {F:Frm (zJ Tryz.prog)} {μ:Nat->Option Nat} {H:Nat->Blk} {nx:Nat} {w:World} (hp:Hp F μ H nx w) {l:List UInt8} {v:Value} (hv:RelD w (Not F μ H) (.sl (.ln .u8)) l [v]) {b g:Nat} (hl:H b≠.dead) (hg:μ b=some g)
  (hrow:Ev.rowAt w g 0 [.string ⟨#[]⟩,.int .i64 0,.slice none 0 0]) (hroom:room w g 3) :
  Hp (F6' F μ H w g) (μ6 w g) (zT O96.blks (q0 l)) O96.blks.length (w95 w v):=by
 have hgl:=hp.lt b g hl hg
 have hN:Sub w (Not (F6' F μ H w g) (μ6 w g) (zT O96.blks (q0 l))) (Not F μ H):=by
  refine ⟨λk hk h=>?_,λk hk h=>?_,λ_ _ h=>h,λ_ _ h=>h⟩
  iterate 2
   rcases h with (h | h | h) | ⟨b',_,h⟩
   ·exact .inl h
   ·exact .inr h.1
   ·omega
   ·rcases μ6_some h with ⟨_,h⟩ | ⟨_,h⟩
    ·omega
    ·exact .inr ⟨b,hl,by rw [h];exact hg⟩
 have hK:Keep (Not F μ H).trk w (w95 w v):=⟨by rw [w95_size];omega,λk hk _=>w95_old w v hk⟩;refine ⟨λb'=>?_,λb' k h1 h2=>?_,λb1 b2 k h1 h2 h3 h4=>?_,λb' hb=>?_,λb' k h1 h2=>?_,λk h=>?_,?_,λb' k h1 h2=>?_,λb' k h1 h2=>?_,λb' k h1 h2=>?_⟩
 ·by_cases h0:b'=0
  ·subst h0;show za _ _ _ _ 0 (.vars [.sl (.ln .u8) l]);simp only [za];refine .inr ⟨w.heap.size+1,[v],rfl,?_,λi hi=>?_,λk hk=>?_⟩
   ·simp only [zC,zA];exact ⟨v,_,rfl,hv.keep hK hN,rfl⟩
   ·rw [Nat.zero_add,w95_cell]
    match i,hi with
    | 0,_=>rfl
   ·refine ⟨?_,w95_frozen _ _ _⟩;rw [w95_cell]
    match k,hk with
    | 0,_=>rfl
  ·by_cases h1:b'=1
   ·subst h1;show za _ _ _ _ 1 (.vars [.s [],.i .i64 0,.wh 2]);simp only [za];refine .inr ⟨g,[.string ⟨#[]⟩,.int .i64 0,.slice none 0 0],rfl,?_,ze (w95_old w v hgl) hrow,yI (w95_old w v hgl) hroom⟩;simp only [zC,zA];exact ⟨_,_,rfl,rfl,_,_,rfl,rfl,_,_,rfl,⟨BoxT0,[],rfl,.inr ⟨rfl,rfl,rfl⟩⟩,rfl⟩
   ·by_cases h2:b'=2
    ·subst h2;show za _ _ _ _ 2 (.data BoxT0 []);simp only [za];exact .inl ⟨rfl,trivial⟩
    ·rw [H96_dead h0 h1 h2];simp only [za]
 ·rw [w95_size];rcases μ6_some h2 with ⟨_,h⟩ | ⟨_,h⟩ <;> omega
 ·rcases μ6_some h3 with ⟨e1,h⟩ | ⟨e1,h⟩ <;> rcases μ6_some h4 with ⟨e2,h'⟩ | ⟨e2,h'⟩
  ·omega
  ·omega
  ·omega
  ·omega
 ·have hb:3<=b':=hb;exact H96_dead (by omega) (by omega) (by omega)
 ·rcases μ6_some h2 with ⟨_,h⟩ | ⟨_,h⟩
  ·rintro (h' | h' | h')
   ·have:=hp.flt _ h';omega
   ·obtain ⟨⟨b2,hb,hm⟩,_⟩:=h'
    have:=hp.lt b2 _ hb hm;omega
   ·omega
  ·rintro (h' | h' | h')
   ·exact hp.apart b g hl hg (by rw [<- h];exact h')
   ·exact h'.2 h
   ·omega
 ·rw [w95_size];rcases h with h | h | h
  ·have:=hp.flt _ h;omega
  ·obtain ⟨⟨b2,hb,hm⟩,_⟩:=h
   have:=hp.lt b2 _ hb hm;omega
  ·omega
 ·exact (zJ Tryz.prog).stays w _ (λk hk=>w95_old w v ((zJ Tryz.prog).lt w k hp.tab hk)) hp.tab
 ·rcases μ6_some h2 with ⟨_,h⟩ | ⟨_,h⟩
  ·intro ho
   have:=(zJ Tryz.prog).lt w k hp.tab ho
   omega
  ·rw [h];exact hp.tapart b g hl hg
 ·rcases μ6_some h2 with ⟨e,_⟩ | ⟨e,_⟩
  ·subst e;cases h1
  ·subst e;cases h1
 ·rcases μ6_some h2 with ⟨_,h⟩ | ⟨_,h⟩
  ·intro c e m hc;rw [h] at hc;rw [w95_new] at hc
   cases hc;exact Nat.le_refl _
  ·rw [h];exact (hp.wfm b g hl hg).of_heap (w95_old w v hgl)
def Post96 {P:Program} (F:Frm (zJ P)) (μ:Nat->Option Nat) (H:Nat->Blk) (w:World) (g:Nat) (l:List UInt8) (w':World):Prop :=
 w'.os=w.os/\w'.tape=w.tape/\w'.output=w.output/\w.heap.size+2<=w'.heap.size/\(∀ k,k<w.heap.size->k≠g->w'.heap[k]?=w.heap[k]?) /\
  ∃ x3:Value,Ev.rowAt w' g 0 [.string ⟨(vm l).1.toArray⟩,.int .i64 (vm l).2.1,x3]/\room w' g 3/\Wfm w' g/\∃ N:NN,N.reg=F.reg/\N.unf=F.unf/\(∀ k,F k\/wy μ H k\/k=w.heap.size->N.all k)/\(∀ k,F.hot k\/wy μ H k\/k=w.heap.size->N.trk k)/\RelD w' N (.sl BoxT0) (vm l).2.2.1 [x3]
theorem call96 {F:Frm (zJ Tryz.prog)} {μ:Nat->Option Nat} {H:Nat->Blk} {nx:Nat} {w:World} (hp:Hp F μ H nx w) {l:List UInt8} {v:Value} (hv:RelD w (Not F μ H) (.sl (.ln .u8)) l [v]) {b g:Nat} (hl:H b≠.dead) (hg:μ b=some g)
  (hrow:Ev.rowAt w g 0 [.string ⟨#[]⟩,.int .i64 0,.slice none 0 0]) (hroom:room w g 3) (hok:rdOK l=true) :
  Calls Tryz.prog 96 #[.pointer (some ⟨w.heap.size+1,0,none⟩),.pointer (some ⟨g,0,none⟩)] (w95 w v)
   (R96 w v (λn2 w'=>rdE l=(if n2=0 then 0 else 4)/\Post96 F μ H w g l w') λc w'=>rdE l=c/\Post96 F μ H w g l w'):=by
 have hgl:=hp.lt b g hl hg
 cases hr:rdR l with
 | none=>simp [rdOK,hr] at hok
 | some r =>
  have hargs:zC (w95 w v) (Not (F6' F μ H w g) (μ6 w g) (zT O96.blks (q0 l))) (μ6 w g) (zT O96.blks (q0 l)) (unL O96.args ((),(),())) [.pointer (some ⟨w.heap.size+1,0,none⟩),.pointer (some ⟨g,0,none⟩)]:=by
   show zC _ _ _ _ [.ptr 0 0,.ptr 1 0] _;simp only [zC,zA];exact ⟨_,_,rfl,⟨(λh=>by cases h),_,rfl,rfl⟩,_,_,rfl,⟨(λh=>by cases h),_,rfl,rfl⟩,rfl⟩
  refine (ok96.run (((),(),()),q0 l) r hr (F6' F μ H w g) (μ6 w g) (w95 w v) _ (in96 hp hv hl hg hrow hroom) hargs).mono λe w' ⟨val,μ',nx',h1,h2,h3,hch,hnew,hpin⟩=>?_
  have htrk:∀ k,wy (μ6 w g) (zT O96.blks (q0 l)) k->k=w.heap.size+1\/k=g:=λk ⟨b,_,h⟩=>by
   rcases μ6_some h with ⟨_,h⟩ | ⟨_,h⟩
   ·exact .inl h
   ·exact .inr h
  have hsz:w.heap.size+2<=w'.heap.size:=by
   have:=hch.size
   rwa [w95_size] at this
  have hkeep:∀ k,k<w.heap.size+2->k≠w.heap.size+1->k≠g->w'.heap[k]?=(w95 w v).heap[k]?:=λk hk h1 h2=>hch.keep k (by rw [w95_size];exact hk) λh=>by
   rcases htrk k h with h | h
   ·exact h1 h
   ·exact h2 h
  obtain ⟨x,q⟩:=r;have hm0:μ' 0=some (w.heap.size+1):=(hpin 0 (by show 0<3;omega) (by show (Blk.vars _).tag≠0;simp [Blk.tag])).2;have hm1:μ' 1=some g:=(hpin 1 (by show 1<3;omega) (by show (Blk.vars _).tag≠0;simp [Blk.tag])).2;have hB0:za w' (Not (F6' F μ H w g) μ' (zT O96.oblks q)) μ' (zT O96.oblks q) 0 (.vars [.sl (.ln .u8) q.1.1]):=h2.blk 0;have hB1:za w' (Not (F6' F μ H w g) μ' (zT O96.oblks q)) μ' (zT O96.oblks q) 1 (.vars [.s q.2.1.1,.i .i64 q.2.1.2.1,.wh 2]):=h2.blk 1;have hB2:za w' (Not (F6' F μ H w g) μ' (zT O96.oblks q)) μ' (zT O96.oblks q) 2 (.data BoxT0 q.2.2.1):=h2.blk 2;have hl0:zT O96.oblks q 0≠.dead:=by show (Blk.vars _)≠.dead;simp
  have hl1:zT O96.oblks q 1≠.dead:=by show (Blk.vars _)≠.dead;simp
  have hl2:zT O96.oblks q 2=.data BoxT0 q.2.2.1:=rfl;have hU:vm l=(q.2.1.1,q.2.1.2.1,q.2.2.1,()):=by simp [vm,hr]
  simp only [za] at hB0 hB1 hB2;rcases hB1 with hB1 | ⟨g',vs,hg',hvs,hrow1,hroom1⟩
  ·rw [hm1] at hB1;cases hB1
  rw [hm1] at hg'
  cases hg';simp only [zC,zA] at hvs;obtain ⟨y1,_,rfl,rfl,y2,_,rfl,rfl,x3,_,rfl,⟨t,l',hl',hx3⟩,rfl⟩:=hvs;rw [hl2] at hl';injection hl' with e1 e2
  subst e1;have e2:=eq_of_heq e2;subst e2
  have hpost:Post96 F μ H w g l w':=by
   refine ⟨hch.os,hch.tape,hch.output,hsz,λk hk hne=>(hkeep k (by omega) (by omega) hne).trans (w95_old w v hk),x3,by rw [hU];exact hrow1,hroom1,h2.wfm 1 g hl1 hm1,N6 F μ H w g,rfl,rfl,λk hk=>?_,λk hk=>?_,?_⟩
   iterate 2
    rcases hk with hk | hk | hk
    ·exact .inl (.inl hk)
    ·by_cases h:k=g
     ·exact .inr (.inr h)
     ·exact .inl (.inr (.inl ⟨hk,h⟩))
    ·exact .inl (.inr (.inr hk))
   ·rw [hU];simp only [RelD];rcases hx3 with ⟨g2,c,hm2,rfl,hc,hroom2⟩ | ⟨hm2,hnil,rfl⟩
    ·refine ⟨_,_,rfl,hc,λ_=>⟨g2,0,rfl,?_,h2.lt 2 g2 (by rw [hl2];simp) hm2,λ_ k hk=>by rw [Nat.zero_add];exact (hroom2 k (Nat.lt_of_lt_of_le hk (uf _ hc))).2,λi hi=>?_⟩⟩
     ·rintro (h | h | h)
      ·exact h2.apart 2 g2 (by rw [hl2];simp) hm2 h
      ·have:=h2.inj 0 2 g2 hl0 (by rw [hl2];simp) (by rw [h];exact hm0) hm2
       cases this
      ·have:=h2.inj 1 2 g2 hl1 (by rw [hl2];simp) (by rw [h];exact hm1) hm2
       cases this
     ·rcases hB2 with ⟨h,_⟩ | ⟨g3,hg3,_,hrows⟩
      ·rw [hm2] at h;cases h
      rw [hm2] at hg3
      cases hg3;obtain ⟨es,e1,e2,e3⟩:=hrows i hi
      have hs:Sub w' (N6 F μ H w g) (Not (F6' F μ H w g) μ' (zT O96.oblks q)):=by
       refine ⟨λk _ hk=>?_,λk _ hk=>?_,λ_ _ h=>h,λ_ _ h=>h⟩
       all_goals
        rcases hk with hk | hk | hk
        ·exact .inl hk
        ·exact .inr ⟨0,hl0,by rw [hk];exact hm0⟩
        ·exact .inr ⟨1,hl1,by rw [hk];exact hm1⟩
      have e4:=e3.keep (Keep.refl w') hs;refine ⟨es,e1,by rw [Nat.zero_add];exact e2,?_⟩;simpa only [RelD] using e4
    ·rw [hnil];exact ⟨none,0,rfl,Nat.le_refl _,λh=>absurd h (Nat.lt_irrefl _)⟩
  have hne:w.heap.size≠g:=by omega
  refine ⟨hsz,hkeep _ (by omega) (by omega) hne,?_⟩
  cases x with
  | inl x =>
   left;have h1:e=.returned val:=h1;have h3:zA w' _ μ' _ (.tup []) val:=h3;simp only [zA,zC] at h3;obtain ⟨vs,hvs,rfl⟩:=h3;rcases hB0 with hB0 | ⟨g',vs,hg',hvs',hrow0,_⟩
   ·rw [hm0] at hB0;cases hB0
   rw [hm0] at hg'
   cases hg';simp only [zC,zA,RelD] at hvs';obtain ⟨x1,_,rfl,⟨a,c,hx1,_⟩,rfl⟩:=hvs'
   cases hx1;have hcell:=hrow0 0 (by simp);refine ⟨by rw [h1,hvs],a,q.1.1.length,c,by simpa using hcell,?_,hpost⟩;simp [rdE,hr]
  | inr x =>
   right;have h1:e=.panicked [{ v:=val,recovered:=false }]:=h1;have h3:zA w' _ μ' _ (.ifc 169 (.agg [.i .i64 x.1])) val:=h3;simp only [zA,zC] at h3;obtain ⟨u,rfl,vs,rfl,v1,_,rfl,rfl,rfl⟩:=h3;exact ⟨x.1,h1,by simp [rdE,hr],hpost⟩
theorem zRead95:ZOK Tryz.prog 95 zRead:=by
  refine ⟨Tryz.call95,λargs S v S' h F μ w vals hp hr=>?_⟩;unfold zRead at h;split at h
  . rename_i l b;split at h
    . rename_i n z u hb;obtain ⟨hu,h2⟩:=zB h;clear h;rw [y5,Prod.mk.injEq,Prod.mk.injEq] at h2;obtain ⟨hok,rfl,rfl⟩:=h2;have hu:=isNilSl_ok hu;subst hu;simp only [yR,xX,List.isEmpty_iff] at hok;obtain ⟨⟨rfl,rfl⟩,hok⟩:=hok;simp only [zC] at hr;obtain ⟨v1,_,rfl,hv,v2,_,rfl,hf,rfl⟩:=hr;have hv:RelD w (Not F μ S.H) (.sl (.ln .u8)) l [v1]:=by simpa only [zA] using hv
      simp only [zA,zC] at hf;obtain ⟨vs,rfl,p1,_,rfl,⟨hlive,g,hg,rfl⟩,rfl⟩:=hf;have hB:=hp.blk b;simp only [hb,za] at hB;rcases hB with hB | ⟨g',vs,hg',hvs,hrow,hroom⟩
      . rw [hg] at hB;cases hB
      rw [hg] at hg'
      cases hg';simp only [zC,zA] at hvs;obtain ⟨_,_,rfl,rfl,_,_,rfl,rfl,_,_,rfl,rfl,rfl⟩:=hvs
      have hv1:∃ a c,v1=.slice a l.length c:=by
        simp only [RelD] at hv;obtain ⟨a,c,h1,_⟩:=hv
        cases h1;exact ⟨a,c,rfl⟩
      obtain ⟨a,c,rfl⟩:=hv1;have hgl:=hp.lt b g hlive hg
      have fin:∀ (w' w'':World) (e:Ending),Post96 F μ S.H w g l w'->End95 w w' w''->e=.returned (.int .i64 (rdE l)) ->
          ∃ μ' kl val,e=.returned val/\(⟨S.E,zp S.H b (.vars [.s (vm l).1,.i .i64 (vm l).2.1,.sl BoxT0 (vm l).2.2.1]),S.nx,S.kl⟩:St).E=yL kl S.E/\(⟨S.E,zp S.H b (.vars [.s (vm l).1,.i .i64 (vm l).2.1,.sl BoxT0 (vm l).2.2.1]),S.nx,S.kl⟩:St).kl=S.kl++kl /\
            Hp F μ' (zp S.H b (.vars [.s (vm l).1,.i .i64 (vm l).2.1,.sl BoxT0 (vm l).2.2.1])) S.nx w''/\Pl F μ S.H S.nx w kl μ' (zp S.H b (.vars [.s (vm l).1,.i .i64 (vm l).2.1,.sl BoxT0 (vm l).2.2.1])) S.nx w'' /\
            zA w'' (Not F μ' (zp S.H b (.vars [.s (vm l).1,.i .i64 (vm l).2.1,.sl BoxT0 (vm l).2.2.1]))) μ' (zp S.H b (.vars [.s (vm l).1,.i .i64 (vm l).2.1,.sl BoxT0 (vm l).2.2.1])) (.i .i64 (rdE l)) val:=by
        intro w' w'' e ⟨e1,e2,e3,hsz,hkeep,x3,hrow',hroom',hwf,N,hNr,hNu,hN,hN2,hD⟩ ⟨k1,k2,k3,k4,k5⟩ he;have hat:w''.heap[g]?=w'.heap[g]?:=k5 g (by omega) (by omega)
        have T:Turned F μ S.H S.nx w [] b (some g) (.vars [.s (vm l).1,.i .i64 (vm l).2.1,.sl BoxT0 (vm l).2.2.1]) S.nx w'' :=
          { hp:=hp,os:=k2.trans e1,tape:=k3.trans e2,output:=k4.trans e3,size:=by omega,live:=by simp,mono:=Nat.le_refl _
            keep:=λk hk hne=>(k5 k (by omega) (by omega)).trans (hkeep k hk λh=>hne hlive (by rw [h];exact hg))
            at_:=λk hk=>by cases hk;exact .inl ⟨hlive,hg⟩
            lt:=by
              rcases Nat.lt_or_ge b S.nx with h | h
              . exact h
              . exact absurd (hp.dead b h) hlive
            kind:=λ_ _=>⟨by rw [hb];rfl,hg.symm⟩
            mark:=λh=>by cases h
            wfm:=λk hk=>by cases hk;exact hwf.of_heap hat
            self:=λ_ _=>⟨by rw [zN,hg],by rw [hb];simp [zf]⟩ }
        refine ⟨xD μ b (some g),[],_,he,rfl,by simp,T.hp' ?_,T.pl,by simp [zA]⟩;simp only [za];refine .inr ⟨g,[.string ⟨(vm l).1.toArray⟩,.int .i64 (vm l).2.1,x3],zN _ _ _,?_,ze hat hrow',yI hat hroom'⟩;simp only [zC,zA];refine ⟨_,_,rfl,rfl,_,_,rfl,rfl,x3,_,rfl,hD.keep ⟨by omega,λk hk hn=>k5 k hk λh=>hn (hN2 k (.inr (.inr h)))⟩ ⟨λk _ hk=>hN k ?_,λk _ hk=>hN2 k ?_,λk _ hk=>by rw [hNr] at hk;exact hk,λk _ hk=>by rw [hNu];exact hk⟩,rfl⟩
        all_goals
          rcases hk with hk | ⟨b2,hb1,hb2⟩
          . exact .inl hk
          . by_cases hbn:b2=b
            . subst hbn;rw [zN] at hb2;exact .inr (.inl ⟨b2,hlive,by rw [hg];exact hb2⟩)
            . rw [zX hbn] at hb1;rw [yK hbn] at hb2;exact .inr (.inl ⟨b2,hb1,hb2⟩)
      refine (walk95 w a l.length c _ _ _ (call96 hp hv hlive hg hrow hroom hok)).mono λe w'' h=>?_
      rcases h with ⟨w',⟨hE,hP⟩,he,hend⟩ | ⟨n2,w',hn,⟨hE,hP⟩,he,hend⟩ | ⟨c,w',⟨hE,hP⟩,he,hend⟩
      . exact fin w' w'' e hP hend (by rw [he,hE];rfl)
      . exact fin w' w'' e hP hend (by rw [he,hE,if_neg hn])
      . exact fin w' w'' e hP hend (by rw [he,hE])
    . cases h
  . cases h
end Go.So
