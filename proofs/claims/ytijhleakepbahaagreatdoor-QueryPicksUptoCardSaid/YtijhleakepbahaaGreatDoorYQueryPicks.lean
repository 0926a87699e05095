/- Texts that the last one leans on: its own. -/
import Derived.Test.YtijhleakepbahaaGreatDoorZK
namespace Go.Qy
open Go Go.Ev Go.Proofs
set_option maxRecDepth 100000
def F41 (p:Q11×Unit):Option Q31:=(some (((decide ((1:Int)<=p.1.1))&&(decide (p.1.1<=(4294967295:Int)))),()))
def O41:Orc:=⟨Q10,[],.b,[],F41⟩
theorem run41 (p):evTop Tryz.prog (CX [] [] [] []) (MX [] []) Tryz.f41 .leaf O41 p=F41 p:=by kernel_rfl
theorem ok41:O41.OK Tryz.prog 41:=ok0 run41 Tryz.func41 Tryz.call41
def S22_0:Shape:=⟨[(1,(.ptr 0 0)),(3,(.i .i64)),(23,(.sl Q46)),(24,(.i .i64)),(25,(.i .i64))],[(0,Q64)],1⟩
def U22_0:Outs:=[((.exit 1),⟨[],[],0⟩),(.ret,⟨[(2,(.i .i64))],[],0⟩)]
abbrev T22_0:Type:=((Unit×Int×(List (Int×(UInt8×Q21)))×Int×Int×Unit)×(Q30×Unit))
abbrev R22_0:Type:=(Q23⊕Q45)
def B22_0 (p:T22_0):Option (T22_0⊕R22_0):=(cond (decide (p.1.2.2.2.2.1<p.1.2.2.2.1)) (Option.bind (cond ((decide ((0:Int)<=p.1.2.2.2.2.1))&&(decide (p.1.2.2.2.2.1<(p.1.2.2.1.length:Int)))) (some (((),p.1.2.1,(),p.1.2.2.1,p.1.2.2.2.1,p.1.2.2.2.2.1,()),(p.2.1,((List.getD p.1.2.2.1 p.1.2.2.2.2.1.toNat ((0:Int),((0:UInt8),(([]:Q5),())))).1,(List.getD p.1.2.2.1 p.1.2.2.2.2.1.toNat ((0:Int),((0:UInt8),(([]:Q5),())))).2.1,(List.getD p.1.2.2.1 p.1.2.2.2.2.1.toNat ((0:Int),((0:UInt8),(([]:Q5),())))).2.2.1,()),()))) none) λp3=>(Option.bind (some (((),(),p3.1.2.2.2.1,p3.1.2.2.2.2.1,p3.1.2.2.2.2.2.1,((decide (p3.2.2.1.1<=p3.1.2.1))||(decide (p3.2.1.2.2.1<=p3.2.2.1.1))),()),p3.2)) λp4=>(cond p4.1.2.2.2.2.2.1 (some (Sum.inr (Sum.inr (((4:Int),()),())))) (Option.bind (some (((),(),p4.1.2.2.1,p4.1.2.2.2.1,p4.1.2.2.2.2.1,(decide ((UInt8.toNat (32:UInt8))<=(UInt8.toNat p4.2.2.1.2.1))),()),p4.2)) λp5=>(cond p5.1.2.2.2.2.2.1 (some (Sum.inr (Sum.inr (((2:Int),()),())))) (Option.bind (some (((),(),p5.1.2.2.1,p5.1.2.2.2.1,p5.1.2.2.2.2.1,(decide ((600:Int)<(p5.2.2.1.2.2.1.length:Int))),()),p5.2)) λp6=>(cond p6.1.2.2.2.2.2.1 (some (Sum.inr (Sum.inr (((6:Int),()),())))) (some (Sum.inl (((),p6.2.2.1.1,p6.1.2.2.1,p6.1.2.2.2.1,(w64 (p6.1.2.2.2.2.1+(1:Int))),()),(p6.2.1,()))))))))))) (some (Sum.inr (Sum.inl ((),())))))
def L22_0 (p:T22_0):Option R22_0:=loopOf B22_0 p
def H22_0:HT:=(.two .leaf (.two .leaf (.two (.one (.two (.join [(.normal,⟨[(1,(.ptr 0 0)),(3,(.i .i64)),(5,(.ptr 1 0)),(23,(.sl Q46)),(24,(.i .i64)),(25,(.i .i64))],[(0,Q64),(1,(.vars Q42))],2⟩)] .leaf) (.two (.one (.two (.join [(.normal,⟨[(1,(.ptr 0 0)),(5,(.ptr 1 0)),(23,(.sl Q46)),(24,(.i .i64)),(25,(.i .i64)),(29,.b)],[(0,Q64),(1,(.vars Q42))],2⟩)] .leaf) (.two .leaf (.two (.join [(.normal,⟨[(1,(.ptr 0 0)),(5,(.ptr 1 0)),(23,(.sl Q46)),(24,(.i .i64)),(25,(.i .i64)),(41,.b)],[(0,Q64),(1,(.vars Q42))],2⟩)] .leaf) (.two .leaf (.two (.join [(.normal,⟨[(1,(.ptr 0 0)),(5,(.ptr 1 0)),(23,(.sl Q46)),(24,(.i .i64)),(25,(.i .i64)),(45,.b)],[(0,Q64),(1,(.vars Q42))],2⟩)] .leaf) .leaf)))))) .leaf))) .leaf)))
def F22 (p:(Q30×Unit)×Unit):Option Q11:=(Option.bind (F41 ((p.1.1.2.1,()),())) λr1=>(cond (!(!r1.1)) (Option.bind (F41 ((p.1.1.2.2.1,()),())) λr2=>(cond (!r2.1) (some ((2:Int),())) (cond (decide ((32:Int)<(p.1.1.2.2.2.1.length:Int))) (some ((8:Int),())) (Option.bind (Option.bind (L22_0 (((),(0:Int),p.1.1.2.2.2.1,(p.1.1.2.2.2.1.length:Int),(0:Int),()),(p.1.1,()))) λp7=>(match p7 with | Sum.inl _p8=>(some (Sum.inl ((),()))) | Sum.inr q8=>(some (Sum.inr (q8.1,()))))) λp9=>(match p9 with | Sum.inl _p10=>(some ((0:Int),())) | Sum.inr q10=>(some (q10.1.1,()))))))) (some ((2:Int),()))))
def O22:Orc:=⟨(.cons (.agg Q8) .nil),[],(.i .i64),[],F22⟩
def H22:HT:=(.two .leaf (.two .leaf (.two .leaf (.two (.join [(.normal,⟨[],[],0⟩),(.ret,⟨[(2,(.i .i64))],[],0⟩)] (.two .leaf (.one (.loop S22_0 U22_0 L22_0 H22_0)))) .leaf))))
def X22:List (FuncId×Orc):=[(41,O41)]
theorem round22_0 (p):round Tryz.prog (CX X22 [] [] []) (MX X22 []) 0 53 (subc (bodyOf Tryz.f22) [true,true,true,false,true,false,false]) H22_0 S22_0 U22_0 p=B22_0 p:=by kernel_rfl
theorem run22 (p):evTop Tryz.prog (CX X22 [] [] []) (MX X22 []) Tryz.f22 H22 O22 p=F22 p:=by kernel_rfl
theorem ok22:O22.OK Tryz.prog 22:=okk run22 Tryz.func22 Tryz.call22 (ls:=[⟨subc (bodyOf Tryz.f22) [true,true,true,false,true,false,false],H22_0,S22_0,U22_0,L22_0⟩]) ⟨LoopRec.of rfl round22_0,trivial⟩ (hX:=⟨ok41,trivial⟩)
def F24 (p:((Int×UInt8×Q5×Unit)×Unit×Unit)×Q45):Option (Bool×Q45):=(some ((decide (p.1.1.1=p.2.1.1)),(p.2.1,())))
def O24:Orc:=⟨(.cons (.agg Q42) Q19),[(0,Q33)],.b,[(0,Q33)],F24⟩
theorem run24 (p):evTop Tryz.prog (CX [] [] [] []) (MX [] []) Tryz.f24 .leaf O24 p=F24 p:=by kernel_rfl
theorem ok24:O24.OK Tryz.prog 24:=ok0 run24 Tryz.func24 Tryz.call24
def S23c24_0:Shape:=⟨[(0,(.sl Q46)),(1,(.fn 24 Q19)),(7,(.i .i64)),(8,(.i .i64))],[(0,Q33)],1⟩
def U23c24_0:Outs:=[((.exit 0),⟨[(1,(.fn 24 Q19))],[(0,Q33)],1⟩),(.ret,⟨[(1,(.fn 24 Q19)),(4,(.i .i64))],[(0,Q33)],1⟩)]
abbrev T23c24_0:Type:=(((List (Int×(UInt8×Q21)))×Q23×Int×Int×Unit)×Q45)
abbrev R23c24_0:Type:=((Q65×Q45)⊕((Q23×Int×Unit)×Q45))
def B23c24_0 (p:T23c24_0):Option (T23c24_0⊕R23c24_0):=(cond (decide (p.1.2.2.2.1<p.1.2.2.1)) (cond ((decide ((0:Int)<=p.1.2.2.2.1))&&(decide (p.1.2.2.2.1<(p.1.1.length:Int)))) (Option.bind (F24 ((((List.getD p.1.1 p.1.2.2.2.1.toNat ((0:Int),((0:UInt8),(([]:Q5),())))).1,(List.getD p.1.1 p.1.2.2.2.1.toNat ((0:Int),((0:UInt8),(([]:Q5),())))).2.1,(List.getD p.1.1 p.1.2.2.2.1.toNat ((0:Int),((0:UInt8),(([]:Q5),())))).2.2.1,()),(),()),p.2)) λr1=>(cond r1.1 (some (Sum.inr (Sum.inr ((((),()),p.1.2.2.2.1,()),(r1.2.1,()))))) (some (Sum.inl ((p.1.1,((),()),p.1.2.2.1,(w64 (p.1.2.2.2.1+(1:Int))),()),(r1.2.1,())))))) none) (some (Sum.inr (Sum.inl ((((),()),()),p.2)))))
def L23c24_0 (p:T23c24_0):Option R23c24_0:=loopOf B23c24_0 p
def F23c24 (p:((List (Int×(UInt8×Q21)))×Q23×Unit)×Q45):Option (Int×Q45):=(Option.bind (Option.bind (L23c24_0 ((p.1.1,((),()),(p.1.1.length:Int),(0:Int),()),(p.2.1,()))) λp2=>(match p2 with | Sum.inl p3=>(some (Sum.inl ((((),()),()),p3.2))) | Sum.inr q3=>(some (Sum.inr ((((),()),q3.1.2.1,()),q3.2))))) λp4=>(match p4 with | Sum.inl p5=>(some ((-1:Int),p5.2)) | Sum.inr q5=>(some (q5.1.2.1,q5.2))))
def O23c24:Orc:=⟨(.cons (.sl Q46) (.cons (.fn 24 Q19) .nil)),[(0,Q33)],(.i .i64),[(0,Q33)],F23c24⟩
def H23c24:HT:=(.two .leaf (.two (.join [(.normal,⟨[(1,(.fn 24 Q19))],[(0,Q33)],1⟩),(.ret,⟨[(1,(.fn 24 Q19)),(4,(.i .i64))],[(0,Q33)],1⟩)] (.two .leaf (.one (.loop S23c24_0 U23c24_0 L23c24_0 .leaf)))) .leaf))
def X23c24:List (FuncId×Orc):=[(24,O24)]
theorem round23c24_0 (p):round Tryz.prog (CX X23c24 [] [] []) (MX X23c24 []) 1 19 (subc (bodyOf Tryz.f23) [true,false,true,false,false]) .leaf S23c24_0 U23c24_0 p=B23c24_0 p:=by kernel_rfl
theorem run23c24 (p):evTop Tryz.prog (CX X23c24 [] [] []) (MX X23c24 []) Tryz.f23 H23c24 O23c24 p=F23c24 p:=by kernel_rfl
theorem ok23c24:O23c24.OK Tryz.prog 23:=okk run23c24 Tryz.func23 Tryz.call23 (ls:=[⟨subc (bodyOf Tryz.f23) [true,false,true,false,false],.leaf,S23c24_0,U23c24_0,L23c24_0⟩]) ⟨LoopRec.of rfl round23c24_0,trivial⟩ (hX:=⟨ok24,trivial⟩)
noncomputable def S12_0:Shape:=⟨[(0,(.sl Q0)),(1,(.sl (.int .i64))),(5,(.ptr 0 0)),(10,(.i .i64)),(11,(.own 1)),(34,(.sl (.int .i64))),(35,(.i .i64)),(36,(.i .i64))],[(0,Q64),(1,Q51)],2⟩
noncomputable def U12_0:Outs:=[((.exit 0),⟨[(11,(.own 0))],[(0,Q51)],1⟩)]
abbrev T12_0:Type:=((Q44×Q69×Unit×Int×Unit×Q69×Int×Int×Unit)×(Q30×Q69×Unit))
abbrev R12_0:Type:=(Q23×(Q69×Unit))
noncomputable def B12_0 (p:T12_0):Option (T12_0⊕R12_0):=(cond (decide (p.1.2.2.2.2.2.2.2.1<p.1.2.2.2.2.2.2.1)) (Option.bind (cond ((decide ((0:Int)<=p.1.2.2.2.2.2.2.2.1))&&(decide (p.1.2.2.2.2.2.2.2.1<(p.1.2.2.2.2.2.1.length:Int)))) (Option.bind (F23c24 ((p.2.1.2.2.2.1,((),()),()),(((List.getD p.1.2.2.2.2.2.1 p.1.2.2.2.2.2.2.2.1.toNat (0:Int)),()),()))) λr4=>(cond (((decide ((0:Int)<=r4.1))&&(decide (r4.1<(p.2.1.2.2.2.1.length:Int))))||(!(decide ((0:Int)<=r4.1)))) (cond (decide ((0:Int)<=r4.1)) (Option.bind (F16 ((((w64 (p.1.2.2.2.2.2.2.2.1+(1:Int))),(p.1.2.1.length:Int),p.1.2.2.2.1,(List.getD p.2.1.2.2.2.1 r4.1.toNat ((0:Int),((0:UInt8),(([]:Q5),())))).1,(List.getD p.2.1.2.2.2.1 r4.1.toNat ((0:Int),((0:UInt8),(([]:Q5),())))).2.1,(List.getD p.2.1.2.2.2.1 r4.1.toNat ((0:Int),((0:UInt8),(([]:Q5),())))).2.2.1,()),()),())) λr5=>(Option.bind (F15 ((p.1.1,r5.1,()),())) λr6=>(cond r6.1 (cond (bytesOK ((List.length p.2.2.1)+(List.length ([(w64 (p.1.2.2.2.2.2.2.2.1+(1:Int)))]:List Int))) 8) (some (p.1,(p.2.1,(p.2.2.1++([(w64 (p.1.2.2.2.2.2.2.2.1+(1:Int)))]:List Int)),()))) none) (some p)))) (some p)) none)) none) λp7=>(some (Sum.inl ((p7.1.1,p7.1.2.1,(),p7.1.2.2.2.1,(),p7.1.2.2.2.2.2.1,p7.1.2.2.2.2.2.2.1,(w64 (p7.1.2.2.2.2.2.2.2.1+(1:Int))),()),p7.2)))) (some (Sum.inr (((),()),(p.2.2.1,())))))
noncomputable def L12_0 (p:T12_0):Option R12_0:=loopOf B12_0 p
noncomputable def H12_0:HT:=(.two .leaf (.two .leaf (.two (.join [(.normal,⟨[(0,(.sl Q0)),(1,(.sl (.int .i64))),(5,(.ptr 0 0)),(10,(.i .i64)),(11,(.own 1)),(34,(.sl (.int .i64))),(35,(.i .i64)),(36,(.i .i64))],[(0,Q64),(1,Q51)],2⟩)] .leaf) .leaf)))
noncomputable def F12 (p:(Q44×Q69×Q30×Unit)×Unit):Option (Q39×(Q69×Unit)):=(Option.bind (F14 ((p.1.1,()),())) λr1=>(cond (!(decide (r1.1=(0:Int)))) (some (((),r1.1,()),(([]:List Int),()))) (Option.bind (F22 ((p.1.2.2.1,()),())) λr2=>(cond (!(decide (r2.1=(0:Int)))) (some (((),r2.1,()),(([]:List Int),()))) (Option.bind (cond (decide ((0:Int)<(p.1.2.1.length:Int))) (cond ((decide ((0:Int)<=(w64 ((p.1.2.1.length:Int)-(1:Int)))))&&(decide ((w64 ((p.1.2.1.length:Int)-(1:Int)))<(p.1.2.1.length:Int)))) (some ((p.1.1,p.1.2.1,(),(List.getD p.1.2.1 (Int.toNat (w64 ((p.1.2.1.length:Int)-(1:Int)))) (0:Int)),()),(p.1.2.2.1,()))) none) (some ((p.1.1,p.1.2.1,(),(0:Int),()),(p.1.2.2.1,())))) λp3=>(Option.bind (Option.bind (L12_0 ((p3.1.1,p3.1.2.1,(),p3.1.2.2.2.1,(),p3.1.2.1,(p3.1.2.1.length:Int),(0:Int),()),(p3.2.1,([]:List Int),()))) λp8=>(some (((),()),p8.2))) λp9=>(some (((),(0:Int),()),p9.2))))))))
noncomputable def O12:Orc:=⟨Q67,[],(.tup (.cons (.own 0) Q10)),[(0,Q51)],F12⟩
noncomputable def H12:HT:=(.two .leaf (.two .leaf (.two .leaf (.two .leaf (.two (.join [(.normal,⟨[(0,(.sl Q0)),(1,(.sl (.int .i64))),(5,(.ptr 0 0)),(10,(.i .i64))],[(0,Q64)],1⟩)] .leaf) (.two .leaf (.two (.join [(.normal,⟨[(11,(.own 0))],[(0,Q51)],1⟩)] (.two .leaf (.one (.loop S12_0 U12_0 L12_0 H12_0)))) .leaf)))))))
noncomputable def X12:List (FuncId×Orc):=[(14,O14),(15,O15),(16,O16),(22,O22),(23,O23c24)]
theorem round12_0 (p):round Tryz.prog (CX X12 [] [] []) (MX X12 []) 0 70 (subc (bodyOf Tryz.f12) [true,true,true,true,true,true,false,true,false,false]) H12_0 S12_0 U12_0 p=B12_0 p:=by kernel_rfl
theorem run12 (p):evTop Tryz.prog (CX X12 [] [] []) (MX X12 []) Tryz.f12 H12 O12 p=F12 p:=by kernel_rfl
theorem ok12:O12.OK Tryz.prog 12:=okk run12 Tryz.func12 Tryz.call12 (ls:=[⟨subc (bodyOf Tryz.f12) [true,true,true,true,true,true,false,true,false,false],H12_0,S12_0,U12_0,L12_0⟩]) ⟨LoopRec.of rfl round12_0,trivial⟩ (hX:=⟨ok14,⟨ok15,⟨ok16,⟨ok22,⟨ok23c24,trivial⟩⟩⟩⟩⟩)
def S25_0:Shape:=⟨[(1,(.ptr 0 0)),(3,(.i .i64))],[(0,Q64)],1⟩
def U25_0:Outs:=[((.exit 0),⟨[],[],0⟩),(.ret,⟨[(2,(.i .i64))],[],0⟩)]
abbrev T25_0:Type:=(Q39×(Q30×Unit))
abbrev R25_0:Type:=(Q23⊕Q45)
def B25_0 (p:T25_0):Option (T25_0⊕R25_0):=(cond (decide (p.1.2.1<(p.2.1.2.2.2.1.length:Int))) (Option.bind (cond ((decide ((0:Int)<=p.1.2.1))&&(decide (p.1.2.1<(p.2.1.2.2.2.1.length:Int)))) (some (((),p.1.2.1,(),()),(p.2.1,((List.getD p.2.1.2.2.2.1 p.1.2.1.toNat ((0:Int),((0:UInt8),(([]:Q5),())))).1,(List.getD p.2.1.2.2.2.1 p.1.2.1.toNat ((0:Int),((0:UInt8),(([]:Q5),())))).2.1,(List.getD p.2.1.2.2.2.1 p.1.2.1.toNat ((0:Int),((0:UInt8),(([]:Q5),())))).2.2.1,()),()))) none) λp1=>(Option.bind (cond (((decide ((0:Int)<=(w64 (p1.1.2.1-(1:Int)))))&&(decide ((w64 (p1.1.2.1-(1:Int)))<(p1.2.1.2.2.2.1.length:Int))))||(!((decide ((0:Int)<p1.1.2.1))&&(!((decide (p1.2.2.1.1<(1:Int)))||(decide (p1.2.1.2.2.1<=p1.2.2.1.1))))))) (some (((),p1.1.2.1,(),(((decide (p1.2.2.1.1<(1:Int)))||(decide (p1.2.1.2.2.1<=p1.2.2.1.1)))||((decide ((0:Int)<p1.1.2.1))&&(decide (p1.2.2.1.1<=(List.getD p1.2.1.2.2.2.1 (Int.toNat (w64 (p1.1.2.1-(1:Int)))) ((0:Int),((0:UInt8),(([]:Q5),())))).1)))),()),p1.2)) none) λp2=>(cond p2.1.2.2.2.1 (some (Sum.inr (Sum.inr (((4:Int),()),())))) (Option.bind (some (((),p2.1.2.1,(),(decide ((UInt8.toNat (31:UInt8))<(UInt8.toNat p2.2.2.1.2.1))),()),p2.2)) λp3=>(cond p3.1.2.2.2.1 (some (Sum.inr (Sum.inr (((2:Int),()),())))) (cond (decide ((600:Int)<(p3.2.2.1.2.2.1.length:Int))) (some (Sum.inr (Sum.inr (((6:Int),()),())))) (some (Sum.inl (((),(w64 (p3.1.2.1+(1:Int))),()),(p3.2.1,())))))))))) (some (Sum.inr (Sum.inl ((),())))))
def L25_0 (p:T25_0):Option R25_0:=loopOf B25_0 p
def H25_0:HT:=(.two .leaf (.two (.one (.two (.join [(.normal,⟨[(1,(.ptr 0 0)),(3,(.i .i64)),(4,(.ptr 1 0))],[(0,Q64),(1,(.vars Q42))],2⟩)] .leaf) (.two (.two (.join [(.normal,⟨[(1,(.ptr 0 0)),(3,(.i .i64)),(4,(.ptr 1 0)),(64,.b)],[(0,Q64),(1,(.vars Q42))],2⟩)] .leaf) .leaf) (.two (.two (.join [(.normal,⟨[(1,(.ptr 0 0)),(3,(.i .i64)),(4,(.ptr 1 0)),(67,.b)],[(0,Q64),(1,(.vars Q42))],2⟩)] .leaf) .leaf) .leaf)))) .leaf))
def F25 (p:(Q30×Unit)×Unit):Option Q11:=(cond ((((decide (p.1.1.2.1<(1:Int)))||(decide ((4294967295:Int)<p.1.1.2.1)))||(decide (p.1.1.2.2.1<(1:Int))))||(decide ((4294967295:Int)<p.1.1.2.2.1))) (some ((2:Int),())) (cond (decide ((32:Int)<(p.1.1.2.2.2.1.length:Int))) (some ((8:Int),())) (Option.bind (Option.bind (L25_0 (((),(0:Int),()),(p.1.1,()))) λp4=>(match p4 with | Sum.inl _p5=>(some (Sum.inl ((),()))) | Sum.inr q5=>(some (Sum.inr (q5.1,()))))) λp6=>(match p6 with | Sum.inl _p7=>(some ((0:Int),())) | Sum.inr q7=>(some (q7.1.1,()))))))
def O25:Orc:=⟨(.cons (.agg Q8) .nil),[],(.i .i64),[],F25⟩
def H25:HT:=(.two .leaf (.two .leaf (.two .leaf (.two (.join [(.normal,⟨[],[],0⟩),(.ret,⟨[(2,(.i .i64))],[],0⟩)] (.two .leaf (.one (.loop S25_0 U25_0 L25_0 H25_0)))) .leaf))))
theorem round25_0 (p):round Tryz.prog (CX [] [] [] []) (MX [] []) 0 72 (subc (bodyOf Tryz.f25) [true,true,true,false,true,false,false]) H25_0 S25_0 U25_0 p=B25_0 p:=by kernel_rfl
theorem run25 (p):evTop Tryz.prog (CX [] [] [] []) (MX [] []) Tryz.f25 H25 O25 p=F25 p:=by kernel_rfl
theorem ok25:O25.OK Tryz.prog 25:=okk run25 Tryz.func25 Tryz.call25 (ls:=[⟨subc (bodyOf Tryz.f25) [true,true,true,false,true,false,false],H25_0,S25_0,U25_0,L25_0⟩]) ⟨LoopRec.of rfl round25_0,trivial⟩
noncomputable def S13_1:Shape:=⟨[(0,(.sl Q0)),(1,(.sl (.int .i64))),(5,(.ptr 0 0)),(9,(.own 1)),(10,(.i .i64)),(11,(.i .i64))],[(0,Q64),(1,Q51)],2⟩
noncomputable def U13_1:Outs:=[((.exit 2),⟨[(0,(.sl Q0)),(1,(.sl (.int .i64))),(5,(.ptr 0 0)),(9,(.own 1)),(10,(.i .i64))],[(0,Q64),(1,Q51)],2⟩)]
abbrev T13_1:Type:=((Q44×Q69×Unit×Unit×Int×Int×Unit)×(Q30×Q69×Unit))
abbrev R13_1:Type:=((Q44×Q69×Unit×Unit×Int×Unit)×(Q30×Q69×Unit))
noncomputable def B13_1 (p:T13_1):Option (T13_1⊕R13_1):=(cond (decide (p.1.2.2.2.2.2.1<(p.2.1.2.2.2.1.length:Int))) (Option.bind (Option.bind (cond ((decide ((0:Int)<=(w64 ((p.1.2.1.length:Int)-(1:Int)))))&&(decide ((w64 ((p.1.2.1.length:Int)-(1:Int)))<(p.1.2.1.length:Int)))) (cond ((decide ((0:Int)<=p.1.2.2.2.2.2.1))&&(decide (p.1.2.2.2.2.2.1<(p.2.1.2.2.2.1.length:Int)))) (some ((p.1.1,p.1.2.1,(),(),p.1.2.2.2.2.1,p.1.2.2.2.2.2.1,(),()),(p.2.1,p.2.2.1,((w64 (p.1.2.2.2.2.1+(1:Int))),(p.1.2.1.length:Int),(List.getD p.1.2.1 (Int.toNat (w64 ((p.1.2.1.length:Int)-(1:Int)))) (0:Int)),(List.getD p.2.1.2.2.2.1 p.1.2.2.2.2.2.1.toNat ((0:Int),((0:UInt8),(([]:Q5),())))).1,(List.getD p.2.1.2.2.2.1 p.1.2.2.2.2.2.1.toNat ((0:Int),((0:UInt8),(([]:Q5),())))).2.1,(List.getD p.2.1.2.2.2.1 p.1.2.2.2.2.2.1.toNat ((0:Int),((0:UInt8),(([]:Q5),())))).2.2.1,()),()))) none) none) λp4=>(cond ((decide ((0:Int)<=p4.1.2.2.2.2.2.1))&&(decide (p4.1.2.2.2.2.2.1<(p4.2.1.2.2.2.1.length:Int)))) (cond ((decide ((0:Int)<=p4.1.2.2.2.2.1))&&(decide (p4.1.2.2.2.2.1<(p4.1.2.1.length:Int)))) (cond (decide ((List.getD p4.2.1.2.2.2.1 p4.1.2.2.2.2.2.1.toNat ((0:Int),((0:UInt8),(([]:Q5),())))).1=(List.getD p4.1.2.1 p4.1.2.2.2.2.1.toNat (0:Int)))) (Option.bind (F17d ((p4.1.1,(w64 ((p4.1.1.length:Int)-(1:Int))),p4.2.2.2.1,()),())) λr5=>(cond r5.1 (cond (bytesOK ((List.length p4.2.2.1)+(List.length ([(w64 (p4.1.2.2.2.2.1+(1:Int)))]:List Int))) 8) (some ((p4.1.1,p4.1.2.1,(),(),p4.1.2.2.2.2.1,p4.1.2.2.2.2.2.1,()),(p4.2.1,(p4.2.2.1++([(w64 (p4.1.2.2.2.2.1+(1:Int)))]:List Int)),()))) none) (some ((p4.1.1,p4.1.2.1,(),(),p4.1.2.2.2.2.1,p4.1.2.2.2.2.2.1,()),(p4.2.1,p4.2.2.1,()))))) (some ((p4.1.1,p4.1.2.1,(),(),p4.1.2.2.2.2.1,p4.1.2.2.2.2.2.1,()),(p4.2.1,p4.2.2.1,())))) none) none)) λp6=>(some (Sum.inl ((p6.1.1,p6.1.2.1,(),(),p6.1.2.2.2.2.1,(w64 (p6.1.2.2.2.2.2.1+(1:Int))),()),p6.2)))) (some (Sum.inr ((p.1.1,p.1.2.1,(),(),p.1.2.2.2.2.1,()),p.2))))
noncomputable def L13_1 (p:T13_1):Option R13_1:=loopOf B13_1 p
noncomputable def H13_1:HT:=(.two .leaf (.two (.join [(.normal,⟨[(0,(.sl Q0)),(1,(.sl (.int .i64))),(5,(.ptr 0 0)),(9,(.own 1)),(10,(.i .i64)),(11,(.i .i64))],[(0,Q64),(1,Q51)],2⟩)] (.one (.two (.join [(.normal,⟨[(0,(.sl Q0)),(1,(.sl (.int .i64))),(5,(.ptr 0 0)),(9,(.own 1)),(10,(.i .i64)),(11,(.i .i64)),(12,(.ptr 2 0))],[(0,Q64),(1,Q51),(2,Q68)],3⟩)] .leaf) .leaf))) .leaf))
noncomputable def S13_0:Shape:=⟨[(0,(.sl Q0)),(1,(.sl (.int .i64))),(5,(.ptr 0 0)),(9,(.own 1)),(10,(.i .i64))],[(0,Q64),(1,Q51)],2⟩
noncomputable def U13_0:Outs:=[((.exit 0),⟨[(9,(.own 0))],[(0,Q51)],1⟩)]
abbrev T13_0:Type:=((Q44×Q69×Unit×Unit×Int×Unit)×(Q30×Q69×Unit))
abbrev R13_0:Type:=(Q23×(Q69×Unit))
noncomputable def B13_0 (p:T13_0):Option (T13_0⊕R13_0):=(cond (decide (p.1.2.2.2.2.1<(p.1.2.1.length:Int))) (Option.bind (Option.bind (L13_1 ((p.1.1,p.1.2.1,(),(),p.1.2.2.2.2.1,(0:Int),()),p.2)) λp7=>(some p7)) λp8=>(some (Sum.inl ((p8.1.1,p8.1.2.1,(),(),(w64 (p8.1.2.2.2.2.1+(1:Int))),()),p8.2)))) (some (Sum.inr (((),()),(p.2.2.1,())))))
noncomputable def L13_0 (p:T13_0):Option R13_0:=loopOf B13_0 p
noncomputable def H13_0:HT:=(.two .leaf (.two (.join [(.normal,⟨[(0,(.sl Q0)),(1,(.sl (.int .i64))),(5,(.ptr 0 0)),(9,(.own 1)),(10,(.i .i64))],[(0,Q64),(1,Q51)],2⟩)] (.one (.two .leaf (.one (.loop S13_1 U13_1 L13_1 H13_1))))) .leaf))
noncomputable def F13 (p:(Q44×Q69×Q30×Unit)×Unit):Option (Q39×(Q69×Unit)):=(Option.bind (F9 ((p.1.1,()),())) λr1=>(Option.bind (cond (decide (r1.1=(0:Int))) (Option.bind (F25 ((p.1.2.2.1,()),())) λr2=>(some ((p.1.1,p.1.2.1,(),r2.1,()),(p.1.2.2.1,())))) (some ((p.1.1,p.1.2.1,(),r1.1,()),(p.1.2.2.1,())))) λp3=>(cond (!(decide (p3.1.2.2.2.1=(0:Int)))) (some (((),p3.1.2.2.2.1,()),(([]:List Int),()))) (Option.bind (Option.bind (L13_0 ((p3.1.1,p3.1.2.1,(),(),(0:Int),()),(p3.2.1,([]:List Int),()))) λp9=>(some (((),()),p9.2))) λp10=>(some (((),(0:Int),()),p10.2))))))
noncomputable def O13:Orc:=⟨Q67,[],(.tup (.cons (.own 0) Q10)),[(0,Q51)],F13⟩
noncomputable def H13:HT:=(.two .leaf (.two .leaf (.two (.join [(.normal,⟨[(0,(.sl Q0)),(1,(.sl (.int .i64))),(5,(.ptr 0 0)),(8,(.i .i64))],[(0,Q64)],1⟩)] .leaf) (.two .leaf (.two .leaf (.two (.join [(.normal,⟨[(9,(.own 0))],[(0,Q51)],1⟩)] (.two .leaf (.one (.loop S13_0 U13_0 L13_0 H13_0)))) .leaf))))))
noncomputable def X13:List (FuncId×Orc):=[(9,O9),(17,O17d),(25,O25)]
theorem round13_1 (p):round Tryz.prog (CX X13 [] [] []) (MX X13 []) 0 77 (subc (bodyOf Tryz.f13) [true,true,true,true,true,false,true,false,false,true,false,false,true,false,false]) H13_1 S13_1 U13_1 p=B13_1 p:=by kernel_rfl
theorem round13_0 (p):round Tryz.prog (CX X13 [] [] []) (MX X13 []) 0 77 (subc (bodyOf Tryz.f13) [true,true,true,true,true,false,true,false,false]) H13_0 S13_0 U13_0 p=B13_0 p:=by kernel_rfl
theorem run13 (p):evTop Tryz.prog (CX X13 [] [] []) (MX X13 []) Tryz.f13 H13 O13 p=F13 p:=by kernel_rfl
theorem ok13:O13.OK Tryz.prog 13:=okk run13 Tryz.func13 Tryz.call13 (ls:=[⟨subc (bodyOf Tryz.f13) [true,true,true,true,true,false,true,false,false],H13_0,S13_0,U13_0,L13_0⟩,⟨subc (bodyOf Tryz.f13) [true,true,true,true,true,false,true,false,false,true,false,false,true,false,false],H13_1,S13_1,U13_1,L13_1⟩]) ⟨LoopRec.of rfl round13_0,⟨LoopRec.of rfl round13_1,trivial⟩⟩ (hX:=⟨ok9,⟨ok17d,⟨ok25,trivial⟩⟩⟩)
noncomputable def S5_0:Shape:=⟨[(7,(.own 0)),(9,(.own 1)),(11,(.i .i64))],[(0,Q51),(1,Q51)],2⟩
noncomputable def U5_0:Outs:=[((.exit 0),⟨[],[],0⟩),(.ret,⟨[(6,(.kb false))],[],0⟩)]
abbrev T5_0:Type:=((Unit×Unit×Int×Unit)×(Q69×Q69×Unit))
abbrev R5_0:Type:=(Q23⊕Q65)
noncomputable def B5_0 (p:T5_0):Option (T5_0⊕R5_0):=(cond (decide (p.1.2.2.1<(p.2.1.length:Int))) (cond ((decide ((0:Int)<=p.1.2.2.1))&&(decide (p.1.2.2.1<(p.2.1.length:Int)))) (cond ((decide ((0:Int)<=p.1.2.2.1))&&(decide (p.1.2.2.1<(p.2.2.1.length:Int)))) (cond (!(decide ((List.getD p.2.1 p.1.2.2.1.toNat (0:Int))=(List.getD p.2.2.1 p.1.2.2.1.toNat (0:Int))))) (some (Sum.inr (Sum.inr (((),()),())))) (some (Sum.inl (((),(),(w64 (p.1.2.2.1+(1:Int))),()),p.2)))) none) none) (some (Sum.inr (Sum.inl ((),())))))
noncomputable def L5_0 (p:T5_0):Option R5_0:=loopOf B5_0 p
noncomputable def H5_0:HT:=.leaf
noncomputable def F5 (p:(Q44×Q69×Q30×Unit)×Unit):Option Q31:=(Option.bind (cond (decide ((100:Int)<(p.1.2.1.length:Int))) (cond (decide ((100:Int)<=(p.1.2.1.length:Int))) (some ((p.1.1,(List.take 100 p.1.2.1),(),()),(p.1.2.2.1,()))) none) (some ((p.1.1,p.1.2.1,(),()),(p.1.2.2.1,())))) λp1=>(Option.bind (F12 ((p1.1.1,p1.1.2.1,p1.2.1,()),())) λr2=>(Option.bind (F13 ((p1.1.1,p1.1.2.1,p1.2.1,()),())) λr3=>(cond ((!(decide (r2.1.2.1=r3.1.2.1)))||(!(decide ((r2.2.1.length:Int)=(r3.2.1.length:Int))))) (some (false,())) (Option.bind (Option.bind (L5_0 (((),(),(0:Int),()),(r2.2.1,r3.2.1,()))) λp4=>(match p4 with | Sum.inl _p5=>(some (Sum.inl ((),()))) | Sum.inr _q5=>(some (Sum.inr (((),()),()))))) λp6=>(match p6 with | Sum.inl _p7=>(some (true,())) | Sum.inr _q7=>(some (false,()))))))))
noncomputable def O5:Orc:=⟨Q67,[],.b,[],F5⟩
noncomputable def H5:HT:=(.two .leaf (.two (.join [(.normal,⟨[(0,(.sl Q0)),(1,(.sl (.int .i64))),(5,(.ptr 0 0))],[(0,Q64)],1⟩)] .leaf) (.two .leaf (.two .leaf (.two .leaf (.two (.join [(.normal,⟨[],[],0⟩),(.ret,⟨[(6,(.kb false))],[],0⟩)] (.two .leaf (.one (.loop S5_0 U5_0 L5_0 H5_0)))) .leaf))))))
noncomputable def X5:List (FuncId×Orc):=[(12,O12),(13,O13)]
noncomputable def Z5:List (FuncId×Deed):=[(8,(zOrc O8t))]
theorem round5_0 (p):round Tryz.prog (CX X5 [] Z5 []) (MX X5 []) 0 57 (subc (bodyOf Tryz.f5) [true,true,true,true,true,false,true,false,false]) H5_0 S5_0 U5_0 p=B5_0 p:=by kernel_rfl
theorem run5 (p):evTop Tryz.prog (CX X5 [] Z5 []) (MX X5 []) Tryz.f5 H5 O5 p=F5 p:=by kernel_rfl
theorem ok5:O5.OK Tryz.prog 5:=okk run5 Tryz.func5 Tryz.call5 (ls:=[⟨subc (bodyOf Tryz.f5) [true,true,true,true,true,false,true,false,false],H5_0,S5_0,U5_0,L5_0⟩]) ⟨LoopRec.of rfl round5_0,trivial⟩ (hX:=⟨ok12,⟨ok13,trivial⟩⟩) (hZ:=⟨(zOrc_ok ok8t),trivial⟩)
end Go.Qy
namespace Go.Qy
open Go Go.Ev
set_option maxRecDepth 100000
abbrev BLtr:Type:=Int×(UInt8×(List UInt8×Unit))
abbrev Box:Type:=List UInt8×Int×Int×List BLtr×Unit
abbrev BOut:Type:=(Unit×Unit)⊕((Int×Unit)×Unit)
def bchk1 (next:Int) (l:BLtr) (last:Int):Int⊕BOut :=
 if l.1<=last\/next<=l.1 then .inr (.inr ((4,()),())) else if 32<=l.2.1.toNat then .inr (.inr ((2,()),())) else if 600<l.2.2.1.length then .inr (.inr ((6,()),())) else .inl l.1
def bchk (next:Int) (ls:List BLtr):BOut:=foldS (bchk1 next) (λ_=>.inl ((),())) 0 ls
def code:BOut->Int
 | .inl _=>0
 | .inr q=>q.1.1
def bcheck (b:Box):Int :=
 if b.2.1<1\/4294967295<b.2.1\/b.2.2.1<1\/4294967295<b.2.2.1 then 2 else if 32<b.2.2.2.1.length then 8 else code (bchk b.2.2.1 b.2.2.2.1)
theorem L22_eq (nm:List UInt8) (v n:Int) (ls:List BLtr) (hl:ls.length<=32):L22_0 (((),(0:Int),ls,((ls.length:Nat):Int),(0:Int),()),((nm,v,n,ls,()),()))=some (bchk n ls):=by
 have hF:=FUEL_big
 refine walk_list (f:=B22_0) (λb i=>(((),b,ls,((ls.length:Nat):Int),(i:Int),()),((nm,v,n,ls,()),()))) ls (bchk1 n) _ (λb i a hi ha=>?_) (λb=>?_) (by omega)
 ·have e1:((0:Int),((0:UInt8),(([]:(List UInt8)),())))=((0,0,[],()):BLtr):=rfl
  simp only [B22_0,nat_lt,nat_nn,hi,dTr,Bool.and_true,cTt,oBs,nCt,ha,bchk1,w64_nat (show i<9223372036854775807 by omega)]
  by_cases h1:a.1<=b\/n<=a.1
  ·simp only [h1,↓reduceIte]
   rcases h1 with h1 | h1 <;> simp [h1]
  ·simp only [h1,↓reduceIte]
   rw [not_or] at h1
   by_cases h2:32<=a.2.1.toNat
   ·simp [h1,h2]
   ·by_cases h3:600<a.2.2.1.length
    ·have h3':(600:Int)<(a.2.2.1.length:Int):=by omega
     simp [h1,h2,h3,h3']
    ·have h3':¬ (600:Int)<(a.2.2.1.length:Int):=by omega
     simp [h1,h2,h3,h3']
 ·simp only [B22_0,Int.lt_irrefl,decide_false,cFf]
theorem F22_eq (b:Box):F22 ((b,()),())=some (bcheck b,()):=by
 obtain ⟨nm,v,n,ls,u⟩:=b
 cases u
 simp only [F22,F41,bcheck,oBs]
 by_cases h1:v<1\/4294967295<v\/n<1\/4294967295<n
 ·simp only [h1,↓reduceIte]
  by_cases h2:1<=v/\v<=4294967295
  ·have:¬ (1<=n/\n<=4294967295):=by omega
   simp [h2,this,<- Bool.decide_and]
  ·simp [h2,<- Bool.decide_and]
 ·have h2:1<=v/\v<=4294967295/\1<=n/\n<=4294967295:=by omega
  simp only [h1,↓reduceIte]
  by_cases h3:32<ls.length
  ·have h3':(32:Int)<(ls.length:Int):=by omega
   simp [h2,h3,h3']
  ·have h3':¬ (32:Int)<(ls.length:Int):=by omega
   simp only [h2,h3,h3',L22_eq nm v n ls (by omega),dTr,decide_false,Bool.and_true,Bool.not_true,Bool.not_false,cTt,cFf,oBs,↓reduceIte]
   cases bchk n ls <;> rfl
theorem L25_eq (nm:List UInt8) (v n:Int) (ls:List BLtr) (hl:ls.length<=32):L25_0 (((),(0:Int),()),((nm,v,n,ls,()),()))=some (bchk n ls):=by
 have hF:=FUEL_big
 refine walk_listI (f:=B25_0) (λ(_:Int) i=>(((),(i:Int),()),((nm,v,n,ls,()),()))) ls (bchk1 n) _ (λb i=>0<=b/\(i=0->b=0)/\(∀ d,0<i->(ls.getD (i-1) d).1=b))
  (λb i a hI hi ha=>?_) (λb _=>?_) (by omega) ⟨by omega,λ_=>rfl,λ_ h=>absurd h (Nat.lt_irrefl _)⟩
 ·obtain ⟨hb,hb0,hbp⟩:=hI
  have hw:0<i->w64 ((i:Int)-1)=((i-1:Nat):Int):=λh=>by
   rw [w64_id (by omega) (by omega)];omega
  have hc:(decide (a.1<(1:Int))||decide (n<=a.1)||(decide ((0:Int)<(i:Int))&&decide (a.1<=(ls.getD (Int.toNat (w64 ((i:Int)-1))) ((0:Int),((0:UInt8),(([]:(List UInt8)),())))).1)))=decide (a.1<=b\/n<=a.1):=by
   by_cases h0:0<i
   ·rw [hw h0,nCt,hbp _ h0]
    rw [Bool.eq_iff_iff]
    simp only [Bool.or_eq_true,bAt,dTe]
    omega
   ·have:=hb0 (by omega)
    rw [Bool.eq_iff_iff]
    simp only [Bool.or_eq_true,bAt,dTe]
    omega
  have hg:(((decide ((0:Int)<=(w64 ((i:Int)-(1:Int)))))&&(decide ((w64 ((i:Int)-(1:Int)))<(((List.length ls):Nat):Int))))||(!((decide ((0:Int)<(i:Int)))&&(!((decide (a.1<(1:Int)))||(decide (n<=a.1)))))))=true:=by
   by_cases h0:0<i
   ·rw [hw h0,nat_nn,nat_lt]
    simp;omega
   ·simp [h0]
  simp only [B25_0,nat_lt,nat_nn,hi,dTr,Bool.and_true,cTt,oBs,nCt,ha]
  rw [hg,hc]
  simp only [cTt,oBs]
  unfold bchk1
  by_cases h1:a.1<=b\/n<=a.1
  ·exact .inr ⟨_,if_pos h1,by simp [h1]⟩
  ·simp only [h1,↓reduceIte]
   by_cases h2:32<=a.2.1.toNat
   ·exact .inr ⟨_,if_pos h2,by
     have h2':31<a.2.1.toNat:=by omega
     simp [h2']⟩
   ·have h2':¬ 31<a.2.1.toNat:=by omega
    rw [if_neg h2]
    by_cases h3:600<a.2.2.1.length
    ·have h3':(600:Int)<(a.2.2.1.length:Int):=by omega
     exact .inr ⟨_,if_pos h3,by simp [h2',h3']⟩
    ·have h3':¬ (600:Int)<(a.2.2.1.length:Int):=by omega
     exact .inl ⟨_,if_neg h3,⟨by omega,by omega,λd _=>by rw [Nat.add_sub_cancel,ha]⟩,by simp [h2',h3',w64_id (n:=(i:Int)+1) (by omega) (by omega)]⟩
 ·simp only [B25_0,Int.lt_irrefl,decide_false,cFf]
theorem F25_eq (b:Box):F25 ((b,()),())=some (bcheck b,()):=by
 obtain ⟨nm,v,n,ls,u⟩:=b
 cases u
 simp only [F25,bcheck]
 by_cases h1:v<1\/4294967295<v\/n<1\/4294967295<n
 ·have e:(decide (v<(1:Int))||decide ((4294967295:Int)<v)||decide (n<(1:Int))||decide ((4294967295:Int)<n))=true:=by
   simp only [Bool.or_eq_true,dTe];omega
  simp only [h1,↓reduceIte,e,cTt]
 ·have e:(decide (v<(1:Int))||decide ((4294967295:Int)<v)||decide (n<(1:Int))||decide ((4294967295:Int)<n))=false:=by
   simp only [Bool.or_eq_false_iff,decide_eq_false_iff_not];omega
  simp only [h1,↓reduceIte,e,cFf]
  by_cases h3:32<ls.length
  ·have h3':(32:Int)<(ls.length:Int):=by omega
   simp [h3,h3']
  ·have h3':¬ (32:Int)<(ls.length:Int):=by omega
   simp only [h3,h3',L25_eq nm v n ls (by omega),decide_false,cFf,oBs,↓reduceIte]
   cases bchk n ls <;> rfl
theorem bchk_zero {n:Int}:∀ {ls:List BLtr} {last:Int},code (foldS (bchk1 n) (λ_=>.inl ((),())) last ls)=0->∀ l∈ls,last<l.1/\l.1<n/\l.2.1.toNat<32/\l.2.2.1.length<=600
 | [],_,_,_,hm=>absurd hm (List.not_mem_nil)
 | a::t,last,h,l,hm=>by
  simp only [foldS,bchk1] at h
  by_cases h1:a.1<=last\/n<=a.1
  ·simp [h1,code] at h
  ·by_cases h2:32<=a.2.1.toNat
   ·simp [h1,h2,code] at h
   ·by_cases h3:600<a.2.2.1.length
    ·simp [h1,h2,h3,code] at h
    ·simp only [h1,h2,h3,↓reduceIte] at h
     rcases List.mem_cons.mp hm with rfl | hm
     ·exact ⟨by omega,by omega,by omega,by omega⟩
     ·have:=bchk_zero h l hm
      exact ⟨by omega,this.2.1,this.2.2.1,this.2.2.2⟩
theorem bchk_rise {n:Int}:∀ {ls:List BLtr} {last:Int},code (foldS (bchk1 n) (λ_=>.inl ((),())) last ls)=0->ls.Pairwise (λa b=>a.1<b.1)
 | [],_,_=>List.Pairwise.nil
 | a::t,last,h=>by
  simp only [foldS,bchk1] at h
  by_cases h1:a.1<=last\/n<=a.1
  ·simp [h1,code] at h
  ·by_cases h2:32<=a.2.1.toNat
   ·simp [h1,h2,code] at h
   ·by_cases h3:600<a.2.2.1.length
    ·simp [h1,h2,h3,code] at h
    ·simp only [h1,h2,h3,↓reduceIte] at h
     exact List.Pairwise.cons (λl hl=>(bchk_zero h l hl).1) (bchk_rise h)
structure Right (b:Box):Prop where
 valid:1<=b.2.1/\b.2.1<=4294967295
 next:1<=b.2.2.1/\b.2.2.1<=4294967295
 few:b.2.2.2.1.length<=32
 each:∀ l∈b.2.2.2.1,0<l.1/\l.1<b.2.2.1/\l.2.1.toNat<32/\l.2.2.1.length<=600
 rise:b.2.2.2.1.Pairwise (λa b=>a.1<b.1)
theorem bcheck_right {b:Box} (h:bcheck b=0):Right b:=by
 unfold bcheck at h
 by_cases h1:b.2.1<1\/4294967295<b.2.1\/b.2.2.1<1\/4294967295<b.2.2.1
 ·rw [if_pos h1] at h;cases h
 ·rw [if_neg h1] at h
  by_cases h2:32<b.2.2.2.1.length
  ·rw [if_pos h2] at h;cases h
  ·rw [if_neg h2] at h
   exact ⟨by omega,by omega,by omega,bchk_zero h,bchk_rise h⟩
end Go.Qy
namespace Go.Qy
open Go Go.Ev
set_option maxRecDepth 100000
noncomputable def pv (x:SX) (l:List Key):Bool:=(st (gx x) l l.length).getD 0 false
theorem pv_eq {l:List Key} (x:SX) (hc:chk l=0) (hl:∀ k∈l,small k) (hb:x.2.2.2.2.2.1.length<=1100000) :
  F15 ((l,rd x,()),())=some (pv x l,())/\F17d ((l,w64 (((l.length:Nat):Int)-1),x,()),())=some (pv x l,()) :=
 both (g:=gx x) hc (rd x) x (λk hk _ _=>F28_eq x k hb (hl k hk)) (λk hk hlf _=>F31_eq x k hb (hl k hk) hlf)
def lastOf (v:List Int):Int:=if 0<v.length then v.getD (v.length-1) 0 else 0
noncomputable def pk (l:List Key) (v:List Int) (ls:List BLtr) (i:Nat) (u:Int) (out:List Int):List Int :=
 match ls.find? (λa=>decide (a.1=u)) with
 | none=>out
 | some a=>if pv (((i+1:Nat):Int),((v.length:Nat):Int),lastOf v,a.1,a.2.1,a.2.2.1,()) l=true then out++[((i+1:Nat):Int)] else out
theorem pk_len (l:List Key) (v:List Int) (ls:List BLtr) (i:Nat) (u:Int) (out:List Int):(pk l v ls i u out).length<=out.length+1:=by
 unfold pk
 split
 ·omega
 ·split
  ·simp
  ·omega
theorem bytes8 {n:Nat} (h:n<=1000000):bytesOK n 8=true:=by
 unfold bytesOK
 exact dTt (by omega)
def stp23 (u:Int) (a:BLtr) (b:Nat):Nat⊕((((Unit×Unit)×Unit)×((Int×Unit)×Unit))⊕(((Unit×Unit)×Int×Unit)×((Int×Unit)×Unit))) :=
 if a.1=u then .inr (.inr ((((),()),(b:Int),()),((u,()),()))) else .inl (b+1)
theorem fold23 (u:Int):∀ (ls:List BLtr) (b:Nat),(ls.find? (λa=>decide (a.1=u))=none/\foldS (stp23 u) (λ_=>.inl ((((),()),()),((u,()),()))) b ls=.inl ((((),()),()),((u,()),())))
  \/ ∃ i a,i<ls.length/\(∀ d,ls.getD i d=a)/\ls.find? (λa=>decide (a.1=u))=some a/\foldS (stp23 u) (λ_=>.inl ((((),()),()),((u,()),()))) b ls=.inr ((((),()),((b+i:Nat):Int),()),((u,()),()))
 | [],b=>.inl ⟨rfl,rfl⟩
 | a::t,b=>by
  simp only [foldS,stp23]
  by_cases h:a.1=u
  ·refine .inr ⟨0,a,by simp,λd=>rfl,by simp [h],?_⟩
   simp [h]
  ·rw [if_neg h]
   rcases fold23 u t (b+1) with ⟨h1,h2⟩ | ⟨i,c,h1,h2,h3,h4⟩
   ·exact .inl ⟨by simp [h,h1],h2⟩
   ·refine .inr ⟨i+1,c,by simp;omega,λd=>by simpa using h2 d,by simp [h,h3],?_⟩
    have e:b+1+i=b+(i+1):=by omega
    simp only [h4,e]
theorem F23_eq (ls:List BLtr) (u:Int) (hl:ls.length<=32) :
  (ls.find? (λa=>decide (a.1=u))=none/\F23c24 ((ls,((),()),()),((u,()),()))=some (-1,((u,()),())))
  \/ ∃ i a,i<ls.length/\(∀ d,ls.getD i d=a)/\ls.find? (λa=>decide (a.1=u))=some a/\F23c24 ((ls,((),()),()),((u,()),()))=some ((i:Int),((u,()),())):=by
 have hF:=FUEL_big
 have h0:L23c24_0 ((ls,((),()),((ls.length:Nat):Int),(0:Int),()),((u,()),()))=some (foldS (stp23 u) (λ_=>.inl ((((),()),()),((u,()),()))) 0 ls):=by
  refine walk_listI (f:=B23c24_0) (λ(_:Nat) i=>((ls,((),()),((ls.length:Nat):Int),(i:Int),()),((u,()),()))) ls (stp23 u) _ (λb i=>b=i)
   (λb i a hI hi ha=>?_) (λb _=>?_) (by omega) rfl
  ·subst hI
   simp only [B23c24_0,F24,nat_lt,nat_nn,hi,dTr,Bool.and_true,cTt,oBs,nCt,ha,stp23,w64_nat (show b<9223372036854775807 by omega)]
   by_cases h:a.1=u
   ·exact .inr ⟨_,if_pos h,by simp [h]⟩
   ·exact .inl ⟨_,if_neg h,rfl,by simp [h]⟩
  ·simp only [B23c24_0,Int.lt_irrefl,decide_false,cFf]
 rcases fold23 u ls 0 with ⟨h1,h2⟩ | ⟨i,a,h1,h2,h3,h4⟩
 ·refine .inl ⟨h1,?_⟩
  simp only [F23c24,h0,h2,oBs]
 ·refine .inr ⟨i,a,h1,h2,h3,?_⟩
  rw [Nat.zero_add] at h4
  simp only [F23c24,h0,h4,oBs]
abbrev RP:Type:=(Unit×Unit)×(List Int×Unit)
noncomputable def stpk (l:List Key) (v:List Int) (ls:List BLtr) (u:Int) (b:Nat×List Int):(Nat×List Int)⊕RP:=.inl (b.1+1,pk l v ls b.1 u b.2)
noncomputable def picks (l:List Key) (v:List Int) (ls:List BLtr):RP :=
 foldS (stpk l v ls) (λb=>(((),()),(b.2,()))) (0,[]) v
theorem L12_eq (l:List Key) (v:List Int) (bx:Box) (hc:chk l=0) (hl:∀ k∈l,small k) (hv:v.length<=100) (hR:Right bx) :
  L12_0 ((l,v,(),lastOf v,(),v,((v.length:Nat):Int),(0:Int),()),(bx,([]:List Int),()))=some (picks l v bx.2.2.2.1):=by
 have hF:=FUEL_big
 unfold picks L12_0
 obtain ⟨nm,vd,nx,ls,⟨⟩⟩:=bx
 have hls:ls.length<=32:=hR.few
 have hle:=hR.each
 refine walk_listI (b:=((0,[]):Nat×List Int)) (f:=B12_0) (λ(b:Nat×List Int) i=>((l,v,(),lastOf v,(),v,((v.length:Nat):Int),(i:Int),()),((nm,vd,nx,ls,()),b.2,()))) v (stpk l v ls) (λb=>(((),()),(b.2,()))) (λb i=>b.1=i/\b.2.length<=i)
  (λb i a hI hi ha=>?_) (λb _=>?_) (by omega) ⟨rfl,Nat.le_refl _⟩
 ·obtain ⟨hb,hn⟩:=hI
  obtain ⟨c,out⟩:=b
  simp only at hb hn
  subst hb
  refine .inl ⟨_,rfl,⟨rfl,?_⟩,?_⟩
  ·have:=pk_len l v ls c a out
   simp only
   omega
  ·have hw:=w64_nat (show c<9223372036854775807 by omega)
   simp only [B12_0,nat_lt,nat_nn,hi,dTr,Bool.and_true,cTt,nCt,ha,hw]
   rcases F23_eq ls a hls with ⟨h1,h2⟩ | ⟨j,k,h1,h2,h3,h4⟩
   ·simp only [h2,pk,h1,oBs,show decide ((0:Int)<=-1)=false from rfl,Bool.false_and,Bool.false_or,Bool.not_false,cTt,cFf]
    rw [hw]
   ·have hk:k∈ls:=by
     have:=h2 k
     rw [List.getD_eq_getElem?_getD,List.getElem?_eq_getElem h1] at this
     rw [<- this]
     exact List.getElem_mem h1
    have hz:k.2.2.1.length<=1100000:=by have:=(hle k hk).2.2.2;omega
    have p1:=(pv_eq (((c+1:Nat):Int),((v.length:Nat):Int),lastOf v,k.1,k.2.1,k.2.2.1,()) hc hl hz).1
    simp only [h4,pk,h3,oBs,nat_nn,nat_lt,h1,dTr,Bool.and_true,Bool.true_or,cTt,nCt,h2,F16_eq (((c+1:Nat):Int),((v.length:Nat):Int),lastOf v,k.1,k.2.1,k.2.2.1,()) hz,p1]
    by_cases hp:pv (((c+1:Nat):Int),((v.length:Nat):Int),lastOf v,k.1,k.2.1,k.2.2.1,()) l=true
    ·simp only [hp,cTt,↓reduceIte,bytes8 (show out.length+1<=1000000 by omega),List.length_singleton,oBs]
     rw [hw]
    ·simp only [hp,cFf,Bool.false_eq_true,↓reduceIte,oBs]
     rw [hw]
 ·simp only [B12_0,Int.lt_irrefl,decide_false,cFf]
noncomputable def g13 (l:List Key) (v:List Int) (i:Nat) (u:Int) (b:List Int) (a:BLtr):List Int :=
 if a.1=u then (if pv (((i+1:Nat):Int),((v.length:Nat):Int),lastOf v,a.1,a.2.1,a.2.2.1,()) l=true then b++[((i+1:Nat):Int)] else b) else b
theorem g13_no {l:List Key} {v:List Int} {i:Nat} {u:Int}:∀ (ls:List BLtr) (b:List Int),(∀ a∈ls,a.1≠u)->ls.foldl (g13 l v i u) b=b
 | [],_,_=>rfl
 | a::t,b,h=>by
  rw [List.foldl_cons,show g13 l v i u b a=b from if_neg (h a (List.mem_cons_self ..))]
  exact g13_no t b λc hc=>h c (List.mem_cons_of_mem _ hc)
theorem g13_pk {l:List Key} {v:List Int} {i:Nat} {u:Int}:∀ (ls:List BLtr) (b:List Int),ls.Pairwise (λa b=>a.1<b.1)->ls.foldl (g13 l v i u) b=pk l v ls i u b
 | [],_,_=>rfl
 | a::t,b,h=>by
  obtain ⟨h1,h2⟩:=List.pairwise_cons.1 h
  rw [List.foldl_cons]
  by_cases e:a.1=u
  ·rw [g13_no t _ λc hc=>by have:=h1 c hc;omega]
   simp only [g13,pk,e,↓reduceIte,List.find?_cons,dTr]
  ·rw [show g13 l v i u b a=b from if_neg e,g13_pk t b h2]
   simp only [pk,List.find?_cons,e,decide_false]
theorem foldS_foldl {α β τ:Type} (g:β->α->β) (fin:β->τ):∀ (ls:List α) (b:β),foldS (λa b=>(.inl (g b a):β⊕τ)) fin b ls=fin (ls.foldl g b)
 | [],_=>rfl
 | a::t,b=>foldS_foldl g fin t (g b a)
theorem L13_1_eq (l:List Key) (v:List Int) (bx:Box) (i:Nat) (u:Int) (out:List Int) (hc:chk l=0) (hl:∀ k∈l,small k) (hv:v.length<=100) (hR:Right bx) (hi:i<v.length) (hu:∀ d,v.getD i d=u) (ho:out.length<=100) :
  L13_1 ((l,v,(),(),(i:Int),(0:Int),()),(bx,out,()))=some ((l,v,(),(),(i:Int),()),(bx,pk l v bx.2.2.2.1 i u out,())):=by
 have hF:=FUEL_big
 obtain ⟨nm,vd,nx,ls,⟨⟩⟩:=bx
 have hls:ls.length<=32:=hR.few
 have hle:=hR.each
 have hw:=w64_nat (show i<9223372036854775807 by omega)
 have hm:w64 (((v.length:Nat):Int)-1)=((v.length-1:Nat):Int):=by
  rw [w64_id (by omega) (by omega)];omega
 have hlast:∀ d,v.getD (v.length-1) d=lastOf v:=λd=>by
  unfold lastOf
  rw [if_pos (by omega)]
  rw [List.getD_eq_getElem?_getD,List.getD_eq_getElem?_getD,List.getElem?_eq_getElem (show v.length-1<v.length by omega)]
  rfl
 rw [<- g13_pk ls out hR.rise]
 refine (walk_listI (b:=out) (f:=B13_1) (λ(b:List Int) j=>((l,v,(),(),(i:Int),(j:Int),()),((nm,vd,nx,ls,()),b,()))) ls (λa b=>.inl (g13 l v i u b a)) (λb=>((l,v,(),(),(i:Int),()),((nm,vd,nx,ls,()),b,()))) (λb j=>b.length<=100+j)
  (λb j a hI hj ha=>?_) (λb _=>?_) (by omega) (by omega)).trans (by rw [foldS_foldl])
 ·have hk:a∈ls:=by
   have:=ha a
   rw [List.getD_eq_getElem?_getD,List.getElem?_eq_getElem hj] at this
   rw [<- this]
   exact List.getElem_mem hj
  have hz:a.2.2.1.length<=1100000:=by have:=(hle a hk).2.2.2;omega
  refine .inl ⟨_,rfl,?_,?_⟩
  ·unfold g13
   split
   ·split
    ·simp;omega
    ·omega
   ·omega
  ·have p2:=(pv_eq (((i+1:Nat):Int),((v.length:Nat):Int),lastOf v,a.1,a.2.1,a.2.2.1,()) hc hl hz).2
   have hw2:=w64_nat (show j<9223372036854775807 by omega)
   have hvl:v.length-1<v.length:=by omega
   simp only [B13_1,nat_lt,nat_nn,hj,hi,hvl,hm,hlast,dTr,Bool.and_true,cTt,nCt,ha,hu,hw,oBs,g13]
   by_cases e:a.1=u
   ·simp only [e,dTr,cTt,↓reduceIte]
    rw [e] at p2
    simp only [p2,oBs]
    by_cases hp:pv (((i+1:Nat):Int),((v.length:Nat):Int),lastOf v,u,a.2.1,a.2.2.1,()) l=true
    ·simp only [hp,cTt,↓reduceIte,bytes8 (show b.length+1<=1000000 by omega),List.length_singleton,oBs]
     rw [hw2]
    ·simp only [hp,cFf,Bool.false_eq_true,↓reduceIte,oBs]
     rw [hw2]
   ·simp only [e,decide_false,cFf,↓reduceIte,oBs]
    rw [hw2]
 ·simp only [B13_1,Int.lt_irrefl,decide_false,cFf]
theorem L13_0_eq (l:List Key) (v:List Int) (bx:Box) (hc:chk l=0) (hl:∀ k∈l,small k) (hv:v.length<=100) (hR:Right bx) :
  L13_0 ((l,v,(),(),(0:Int),()),(bx,([]:List Int),()))=some (picks l v bx.2.2.2.1):=by
 have hF:=FUEL_big
 unfold picks L13_0
 refine walk_listI (b:=((0,[]):Nat×List Int)) (f:=B13_0) (λ(b:Nat×List Int) i=>((l,v,(),(),(i:Int),()),(bx,b.2,()))) v (stpk l v bx.2.2.2.1) (λb=>(((),()),(b.2,()))) (λb i=>b.1=i/\b.2.length<=i)
  (λb i a hI hi ha=>?_) (λb _=>?_) (by omega) ⟨rfl,Nat.le_refl _⟩
 ·obtain ⟨hb,hn⟩:=hI
  obtain ⟨c,out⟩:=b
  simp only at hb hn
  subst hb
  refine .inl ⟨_,rfl,⟨rfl,?_⟩,?_⟩
  ·have:=pk_len l v bx.2.2.2.1 c a out
   simp only
   omega
  ·have hw:=w64_nat (show c<9223372036854775807 by omega)
   simp only [B13_0,nat_lt,hi,dTr,cTt,L13_1_eq l v bx c a out hc hl hv hR hi ha (by omega),oBs]
   rw [hw]
 ·simp only [B13_0,Int.lt_irrefl,decide_false,cFf]
theorem L5_eq:∀ (o:List Int),o.length<1000000->L5_0 (((),(),(0:Int),()),(o,o,()))=some (.inl ((),())):=λo ho=>by
 have hF:=FUEL_big
 unfold L5_0
 refine (walk_listI (b:=()) (f:=B5_0) (λ(_:Unit) i=>(((),(),(i:Int),()),(o,o,()))) o (λ_ _=>.inl ()) (λ_=>.inl ((),())) (λ_ _=>True)
  (λb i a hI hi ha=>.inl ⟨(),rfl,trivial,?_⟩) (λb _=>?_) (by omega) trivial).trans ?_
 ·have hw:=w64_nat (show i<9223372036854775807 by omega)
  simp only [B5_0,nat_lt,nat_nn,hi,dTr,Bool.and_true,cTt,nCt,ha,Bool.not_true,cFf]
  rw [hw]
 ·simp only [B5_0,Int.lt_irrefl,decide_false,cFf]
 ·congr 1
  generalize ()=b
  induction o with
  | nil=>rfl
  | cons a t ih=>exact ih (by simp only [List.length_cons] at ho;omega)
theorem picks_len (l:List Key) (v:List Int) (ls:List BLtr):∃ o:List Int,o.length<=v.length/\picks l v ls=(((),()),(o,())):=by
 unfold picks
 have h:∀ (v':List Int) (b:Nat×List Int),∃ o:List Int,o.length<=b.2.length+v'.length/\foldS (stpk l v ls) (λb=>(((),()),(b.2,()))) b v'=(((),()),(o,())):=by
  intro v'
  induction v' with
  | nil=>exact λb=>⟨b.2,by simp,rfl⟩
  | cons a t ih =>
   intro b
   obtain ⟨o,h1,h2⟩:=ih (b.1+1,pk l v ls b.1 a b.2)
   refine ⟨o,?_,h2⟩
   have:=pk_len l v ls b.1 a b.2
   simp only [List.length_cons] at *
   omega
 obtain ⟨o,h1,h2⟩:=h v (0,[])
 exact ⟨o,by simpa using h1,h2⟩
theorem F12_eq (l:List Key) (v:List Int) (bx:Box) (hl:∀ k∈l,small k) (hv:v.length<=100) :
  ∃ r:(Unit×Int×Unit)×(List Int×Unit),F12 ((l,v,bx,()),())=some r/\F13 ((l,v,bx,()),())=some r/\r.2.1.length<=100:=by
 have h14:=F14_eq l hl
 have h9:=F9_eq l hl
 by_cases hc:chk l=0
 ·by_cases hb:bcheck bx=0
  ·have hR:=bcheck_right hb
   have q1:=L12_eq l v bx hc hl hv hR
   have q2:=L13_0_eq l v bx hc hl hv hR
   obtain ⟨o,ho,hp⟩:=picks_len l v bx.2.2.2.1
   rw [hp] at q1 q2
   refine ⟨(((),0,()),(o,())),?_,?_,by simp only;omega⟩
   ·simp only [F12,h14,hc,oBs,dTr,Bool.not_true,cFf,F22_eq,hb]
    by_cases h0:0<v.length
    ·have hm:w64 (((v.length:Nat):Int)-1)=((v.length-1:Nat):Int):=by
      rw [w64_id (by omega) (by omega)];omega
     have hvl:v.length-1<v.length:=by omega
     have hlast:v.getD (v.length-1) 0=lastOf v:=(if_pos h0).symm
     have h0':decide ((0:Int)<((v.length:Nat):Int))=true:=dTt (by omega)
     simp only [h0',hm,nat_lt,nat_nn,hvl,dTr,Bool.and_true,cTt,nCt,hlast,oBs,q1]
    ·have hlast:(0:Int)=lastOf v:=(if_neg h0).symm
     have h0':decide ((0:Int)<((v.length:Nat):Int))=false:=dFf (by omega)
     rw [<- hlast] at q1
     simp only [h0',cFf,oBs,q1]
   ·simp only [F13,h9,hc,oBs,dTr,Bool.not_true,cTt,cFf,F25_eq,hb,q2]
  ·refine ⟨(((),bcheck bx,()),([],())),?_,?_,by simp⟩
   ·simp only [F12,h14,hc,oBs,dTr,Bool.not_true,cFf,F22_eq,dFf hb,Bool.not_false,cTt]
   ·simp only [F13,h9,hc,oBs,dTr,cTt,F25_eq,dFf hb,Bool.not_false]
 ·refine ⟨(((),chk l,()),([],())),?_,?_,by simp⟩
  ·simp only [F12,h14,oBs,dFf hc,Bool.not_false,cTt]
  ·simp only [F13,h9,oBs,dFf hc,Bool.not_false,cTt,cFf]
theorem law5 (l:List Key) (v:List Int) (bx:Box) (hl:∀ k∈l,small k):F5 ((l,v,bx,()),())=some (true,()):=by
 have key:∀ w:List Int,w.length<=100->(Option.bind (F12 ((l,w,bx,()),())) λr2=>(Option.bind (F13 ((l,w,bx,()),())) λr3=>(cond ((!(decide (r2.1.2.1=r3.1.2.1)))||(!(decide ((((List.length r2.2.1):Nat):Int)=(((List.length r3.2.1):Nat):Int))))) (some (false,())) (Option.bind (Option.bind (L5_0 (((),(),(0:Int),()),(r2.2.1,r3.2.1,()))) λp4=>(match p4 with | Sum.inl p5=>(some (Sum.inl ((),()))) | Sum.inr q5=>(some (Sum.inr (((),()),()))))) λp6=>(match p6 with | Sum.inl p7=>(some (true,())) | Sum.inr q7=>(some (false,())))))))=some (true,()):=λw hw=>by
  obtain ⟨r,h1,h2,h3⟩:=F12_eq l w bx hl hw
  simp only [h1,h2,oBs,dTr,Bool.not_true,Bool.or_self,cFf,L5_eq r.2.1 (by omega)]
 unfold F5
 by_cases h:100<v.length
 ·have h':decide ((100:Int)<((v.length:Nat):Int))=true:=dTt (by omega)
  have h'':decide ((100:Int)<=((v.length:Nat):Int))=true:=dTt (by omega)
  simp only [h',h'',cTt,oBs]
  exact key _ (by simp;omega)
 ·have h':decide ((100:Int)<((v.length:Nat):Int))=false:=dFf (by omega)
  simp only [h',cFf,oBs]
  exact key _ (by omega)
abbrev BT:Ty:=(.pair .str (.pair (.int .i64) (.pair (.int .i64) (.pair (.sl (.pair (.int .i64) (.pair .u8 (.pair (.sl .u8) .unit)))) .unit))))
theorem law5' (l:List Key) (v:List Int) (bx:BT.den) (hl:sizD (.sl KT) l<=1100000):F5 ((l,v,(bx.1,bx.2.1,bx.2.2.1,bx.2.2.2.1,()),()),())=some (true,()) :=
 law5 l v _ (small_of hl)
end Go.Qy
