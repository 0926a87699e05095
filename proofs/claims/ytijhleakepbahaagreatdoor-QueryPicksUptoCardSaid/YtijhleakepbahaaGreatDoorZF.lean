/- Texts that the last one leans on, 6. -/
import Derived.Test.YtijhleakepbahaaGreatDoorZE
import Derived.Defers
import Derived.Recover
namespace Go.Qy
open Go Go.Ev Go.Proofs
set_option maxRecDepth 100000
def S68_0:Shape:=⟨[(3,(.own 0)),(8,(.own 0)),(9,(.i .i64)),(10,(.i .i64))],[(0,Q83)],1⟩
def U68_0:Outs:=[((.exit 0),⟨[(3,(.own 0))],[(0,Q83)],1⟩)]
abbrev T68_0:Type:=((Unit×Unit×Int×Int×Unit)×Q21)
abbrev R68_0:Type:=(Q23×Q21)
def B68_0 (p:T68_0):Option (T68_0⊕R68_0):=(cond (decide (p.1.2.2.2.1<p.1.2.2.1)) (Option.bind (cond ((decide ((0:Int)<=p.1.2.2.2.1))&&(decide (p.1.2.2.2.1<(p.2.1.length:Int)))) (cond ((decide ((UInt8.toNat (97:UInt8))<=(UInt8.toNat (List.getD p.2.1 p.1.2.2.2.1.toNat (0:UInt8)))))&&(decide ((UInt8.toNat (List.getD p.2.1 p.1.2.2.2.1.toNat (0:UInt8)))<=(UInt8.toNat (122:UInt8))))) (Option.bind (cond ((decide ((0:Int)<=p.1.2.2.2.1))&&(decide (p.1.2.2.2.1<(p.2.1.length:Int)))) (some (p.1,((List.set p.2.1 p.1.2.2.2.1.toNat ((List.getD p.2.1 p.1.2.2.2.1.toNat (0:UInt8))-(32:UInt8))),()))) none) λp1=>(some p1)) (some p)) none) λp2=>(some (Sum.inl (((),(),p2.1.2.2.1,(w64 (p2.1.2.2.2.1+(1:Int))),()),p2.2)))) (some (Sum.inr (((),()),p.2))))
def L68_0 (p:T68_0):Option R68_0:=loopOf B68_0 p
def H68_0:HT:=(.two .leaf (.two .leaf (.two (.join [(.normal,⟨[(3,(.own 0)),(8,(.own 0)),(9,(.i .i64)),(10,(.i .i64))],[(0,Q83)],1⟩)] (.one (.two .leaf (.two .leaf (.two (.join [(.normal,⟨[(3,(.own 0)),(8,(.own 0)),(9,(.i .i64)),(10,(.i .i64))],[(0,Q83)],1⟩)] .leaf) .leaf))))) .leaf)))
def F68 (p:Q21×Unit):Option Q21:=(Option.bind (Option.bind (L68_0 (((),(),(p.1.1.length:Int),(0:Int),()),(p.1.1,()))) λp3=>(some (((),()),p3.2))) λp4=>(some (p4.2.1,())))
def O68:Orc:=⟨Q20,[],.s,[],F68⟩
def H68:HT:=(.two .leaf (.two .leaf (.two (.join [(.normal,⟨[(3,(.own 0))],[(0,Q83)],1⟩)] (.two .leaf (.one (.loop S68_0 U68_0 L68_0 H68_0)))) .leaf)))
theorem round68_0 (p):round Tryz.prog (CX [] [] [] []) (MX [] []) 0 29 (subc (bodyOf Tryz.f68) [true,true,false,true,false,false]) H68_0 S68_0 U68_0 p=B68_0 p:=by kernel_rfl
theorem run68 (p):evTop Tryz.prog (CX [] [] [] []) (MX [] []) Tryz.f68 H68 O68 p=F68 p:=by kernel_rfl
theorem ok68:O68.OK Tryz.prog 68:=okk run68 Tryz.func68 Tryz.call68 (ls:=[⟨subc (bodyOf Tryz.f68) [true,true,false,true,false,false],H68_0,S68_0,U68_0,L68_0⟩]) ⟨LoopRec.of rfl round68_0,trivial⟩
def S35_0:Shape:=⟨[(1,(.ptr 0 0)),(3,.s),(11,(.own 1)),(12,(.i .i64)),(13,(.i .i64))],[(0,Q40),(1,Q27)],2⟩
def U35_0:Outs:=[((.exit 1),⟨[(1,(.ptr 0 0)),(3,.s)],[(0,Q40)],1⟩)]
abbrev T35_0:Type:=((Unit×Q5×Unit×Int×Int×Unit)×(Q16×Q53×Unit))
abbrev R35_0:Type:=((Unit×Q5×Unit)×Q66)
def B35_0 (p:T35_0):Option (T35_0⊕R35_0):=(cond (decide (p.1.2.2.2.2.1<p.1.2.2.2.1)) (Option.bind (cond ((decide ((0:Int)<=p.1.2.2.2.2.1))&&(decide (p.1.2.2.2.2.1<(p.2.2.1.length:Int)))) (cond (decide ((0:Int)<=p.1.2.2.2.2.1)) (cond (decide (p.2.1.2.1=(UInt8.ofNat (UInt8.toNat (1:UInt8)*2^(min p.1.2.2.2.2.1.toNat 8))))) (some (((),(List.getD p.2.2.1 p.1.2.2.2.2.1.toNat ([]:List UInt8)),(),p.1.2.2.2.1,p.1.2.2.2.2.1,()),p.2)) (some p)) none) none) λp3=>(some (Sum.inl (((),p3.1.2.1,(),p3.1.2.2.2.1,(w64 (p3.1.2.2.2.2.1+(1:Int))),()),p3.2)))) (some (Sum.inr (((),p.1.2.1,()),(p.2.1,())))))
def L35_0 (p:T35_0):Option R35_0:=loopOf B35_0 p
def H35_0:HT:=(.two .leaf (.two .leaf (.two (.join [(.normal,⟨[(1,(.ptr 0 0)),(3,.s),(11,(.own 1)),(12,(.i .i64)),(13,(.i .i64))],[(0,Q40),(1,Q27)],2⟩)] .leaf) .leaf)))
def F35 (p:Q66×Unit):Option Q21:=(Option.bind (Option.bind (cond (decide (p.1.1.1=(2:Int))) (some (((),p.1.1.1,(decide (p.1.1.1=(2:Int))),()),(p.1.1,()))) (some (((),p.1.1.1,(decide (p.1.1.1=(3:Int))),()),(p.1.1,())))) λp1=>(cond p1.1.2.2.1 (Option.bind (Option.bind (F67 ((),())) λr2=>(Option.bind (L35_0 (((),([]:List UInt8),(),(r2.2.1.length:Int),(0:Int),()),(p1.2.1,r2.2.1,()))) λp4=>(some p4))) λp5=>(Option.bind (cond (decide (p5.2.1.1=(3:Int))) (cond (fits (List.length ([117,110]:List UInt8)+List.length p5.1.2.1)) (some (((([117,110]:List UInt8)++p5.1.2.1),()),())) none) (some ((p5.1.2.1,()),()))) λp6=>(Option.bind (F68 (p6.1,())) λr7=>(some (Sum.inr ((r7.1,()),())))))) (cond (decide (p1.1.2.1=(4:Int))) none (cond (decide (p1.1.2.1=(5:Int))) none (cond (decide (p1.1.2.1=(6:Int))) (some (Sum.inr ((p1.2.1.2.2.2.1,()),()))) (cond (decide (p1.1.2.1=(7:Int))) (cond (fits (List.length ([85,73,68,32]:List UInt8)+List.length p1.2.1.2.2.2.1)) (some (Sum.inr (((([85,73,68,32]:List UInt8)++p1.2.1.2.2.2.1),()),()))) none) (cond (decide (p1.1.2.1=(8:Int))) none (cond (decide (p1.1.2.1=(9:Int))) none (cond (decide (p1.1.2.1=(10:Int))) none (cond (decide (p1.1.2.1=(12:Int))) none (cond (decide (p1.1.2.1=(13:Int))) none (cond (decide (p1.1.2.1=(11:Int))) (Option.bind (F73 ((),())) λr8=>(Option.bind (F72 ((r8.2.1,p1.2.1.2.2.2.2.2.2.2.1,()),())) λr9=>(cond r9.1 (Option.bind (F68 ((p1.2.1.2.2.2.2.2.2.2.1,()),())) λr10=>(cond (fits (List.length r10.1+List.length ([32]:List UInt8))) none none)) (cond (fits (List.length ([72,69,65,68,69,82,32]:List UInt8)+List.length p1.2.1.2.2.2.2.2.2.2.1)) (cond (fits (List.length (([72,69,65,68,69,82,32]:List UInt8)++p1.2.1.2.2.2.2.2.2.2.1)+List.length ([32]:List UInt8))) none none) none)))) (some (Sum.inl ((),()))))))))))))))) λp11=>(match p11 with | Sum.inl _p12=>(some (([65,76,76]:List UInt8),())) | Sum.inr q12=>(some (q12.1.1,()))))
def O35:Orc:=⟨(.cons (.agg Q2) .nil),[],.s,[],F35⟩
def H35:HT:=(.two .leaf (.two (.join [(.normal,⟨[],[],0⟩),(.ret,⟨[(2,.s)],[],0⟩)] (.two .leaf (.one (.two (.join [(.normal,⟨[(1,(.ptr 0 0)),(7,(.i .i64)),(8,.b)],[(0,Q40)],1⟩)] .leaf) (.two (.two .leaf (.two (.join [(.normal,⟨[(1,(.ptr 0 0)),(3,.s)],[(0,Q40)],1⟩)] (.two .leaf (.one (.loop S35_0 U35_0 L35_0 H35_0)))) (.two (.join [(.normal,⟨[(3,.s)],[],0⟩)] .leaf) .leaf))) .leaf))))) .leaf))
def X35:List (FuncId×Orc):=[(67,O67),(68,O68),(72,O72),(73,O73)]
theorem round35_0 (p):round Tryz.prog (CX X35 [] [] []) (MX X35 []) 0 105 (subc (bodyOf Tryz.f35) [true,false,true,false,true,false,true,false,true,false,false]) H35_0 S35_0 U35_0 p=B35_0 p:=by kernel_rfl
theorem run35 (p):evTop Tryz.prog (CX X35 [] [] []) (MX X35 []) Tryz.f35 H35 O35 p=F35 p:=by kernel_rfl
theorem ok35:O35.OK Tryz.prog 35:=okk run35 Tryz.func35 Tryz.call35 (ls:=[⟨subc (bodyOf Tryz.f35) [true,false,true,false,true,false,true,false,true,false,false],H35_0,S35_0,U35_0,L35_0⟩]) ⟨LoopRec.of rfl round35_0,trivial⟩ (hX:=⟨ok67,⟨ok68,⟨ok72,⟨ok73,trivial⟩⟩⟩⟩)
noncomputable def S19_0:Shape:=⟨[(5,(.own 0)),(16,(.sl Q0)),(17,(.i .i64)),(18,(.i .i64))],[(0,Q22)],1⟩
noncomputable def U19_0:Outs:=[((.exit 0),⟨[(5,(.own 0))],[(0,Q22)],1⟩)]
abbrev T19_0:Type:=((Unit×Q44×Int×Int×Unit)×((List (Q5×Q21))×Unit))
abbrev R19_0:Type:=(Q23×((List (Q5×Q21))×Unit))
noncomputable def B19_0 (p:T19_0):Option (T19_0⊕R19_0):=(cond (decide (p.1.2.2.2.1<p.1.2.2.1)) (Option.bind (Option.bind (cond ((decide ((0:Int)<=p.1.2.2.2.1))&&(decide (p.1.2.2.2.1<(p.1.2.1.length:Int)))) (some (((),(),p.1.2.1,p.1.2.2.1,p.1.2.2.2.1,()),(p.2.1,((List.getD p.1.2.1 p.1.2.2.2.1.toNat kz).1,(List.getD p.1.2.1 p.1.2.2.2.1.toNat kz).2.1,(List.getD p.1.2.1 p.1.2.2.2.1.toNat kz).2.2.1,(List.getD p.1.2.1 p.1.2.2.2.1.toNat kz).2.2.2.1,(List.getD p.1.2.1 p.1.2.2.2.1.toNat kz).2.2.2.2.1.1,(List.getD p.1.2.1 p.1.2.2.2.1.toNat kz).2.2.2.2.1.2.1,(List.getD p.1.2.1 p.1.2.2.2.1.toNat kz).2.2.2.2.1.2.2.1,(List.getD p.1.2.1 p.1.2.2.2.1.toNat kz).2.2.2.2.2.1,(List.getD p.1.2.1 p.1.2.2.2.1.toNat kz).2.2.2.2.2.2.1,()),()))) none) λp2=>(Option.bind (Option.bind (F27 ((p2.2.2.1.1,()),())) λr3=>(some (((),(),(w64 ((p2.2.1.length:Int)-r3.1)),p2.1.2.2.1,p2.1.2.2.2.1,p2.1.2.2.2.2.1,()),p2.2))) λp4=>(Option.bind (cond (((decide ((0:Int)<=p4.1.2.2.1))&&(decide (p4.1.2.2.1<=(p4.2.1.length:Int))))&&(decide ((p4.2.1.length:Int)<=(p4.2.1.length:Int)))) (some (((),(),p4.1.2.2.1,(p4.1.2.2.1.toNat,((Int.toNat (p4.2.1.length:Int))-p4.1.2.2.1.toNat)),p4.1.2.2.2.1,p4.1.2.2.2.2.1,p4.1.2.2.2.2.2.1,()),p4.2)) none) λp5=>(Option.bind (some (((),(),p5.1.2.2.1,(p5.1.2.2.2.1.1,p5.1.2.2.2.1.2),(),p5.1.2.2.2.2.1,p5.1.2.2.2.2.2.1,p5.1.2.2.2.2.2.2.1,()),(p5.2.1,p5.2.2.1,((),(),()),()))) λp6=>(Option.bind (Option.bind (some (((),(),p6.1.2.2.1,(p6.1.2.2.2.1.1,p6.1.2.2.2.1.2),(),p6.1.2.2.2.2.2.1,p6.1.2.2.2.2.2.2.1,p6.1.2.2.2.2.2.2.2.1,p6.2.2.1.1,()),(p6.2.1,p6.2.2.1,((),(),()),()))) λp7=>(Option.bind (some (((),(),p7.1.2.2.1,(p7.1.2.2.2.1.1,p7.1.2.2.2.1.2),(),p7.1.2.2.2.2.2.1,p7.1.2.2.2.2.2.2.1,p7.1.2.2.2.2.2.2.2.1,p7.1.2.2.2.2.2.2.2.2.1,(decide (p7.1.2.2.2.2.2.2.2.2.1=(14:Int))),()),(p7.2.1,p7.2.2.1,((),(),()),()))) λp8=>(cond p8.1.2.2.2.2.2.2.2.2.2.1 (Option.bind (cond (decide ((0:Int)<((p8.1.2.2.2.1.2:Nat):Int))) (cond (fits (List.length ([78,79,84,32]:List UInt8)+List.length (List.getD p8.2.1 p8.1.2.2.2.1.1 (([]:List UInt8),(([]:List UInt8),()))).1)) (some (((),p8.1.2.2.1,(),p8.1.2.2.2.2.2.1,p8.1.2.2.2.2.2.2.1,p8.1.2.2.2.2.2.2.2.1,()),(p8.2.1,((([78,79,84,32]:List UInt8)++(List.getD p8.2.1 p8.1.2.2.2.1.1 (([]:List UInt8),(([]:List UInt8),()))).1),(),()),()))) none) none) λp9=>(some (p9.1,(p9.2.1,(p9.2.2.1.1,([]:List UInt8),()),())))) (Option.bind (some (((),(),p8.1.2.2.1,(p8.1.2.2.2.1.1,p8.1.2.2.2.1.2),(),p8.1.2.2.2.2.2.1,p8.1.2.2.2.2.2.2.1,p8.1.2.2.2.2.2.2.2.1,p8.1.2.2.2.2.2.2.2.2.1,(decide (p8.1.2.2.2.2.2.2.2.2.1=(15:Int))),()),(p8.2.1,p8.2.2.1,((),(),()),()))) λp10=>(cond p10.1.2.2.2.2.2.2.2.2.2.1 (Option.bind (cond (decide ((0:Int)<((p10.1.2.2.2.1.2:Nat):Int))) (cond (fits (List.length ([79,82,32]:List UInt8)+List.length (List.getD p10.2.1 p10.1.2.2.2.1.1 (([]:List UInt8),(([]:List UInt8),()))).1)) (cond (fits (List.length (([79,82,32]:List UInt8)++(List.getD p10.2.1 p10.1.2.2.2.1.1 (([]:List UInt8),(([]:List UInt8),()))).1)+List.length ([32]:List UInt8))) (cond (decide ((1:Int)<((p10.1.2.2.2.1.2:Nat):Int))) (cond (fits (List.length ((([79,82,32]:List UInt8)++(List.getD p10.2.1 p10.1.2.2.2.1.1 (([]:List UInt8),(([]:List UInt8),()))).1)++([32]:List UInt8))+List.length (List.getD p10.2.1 (p10.1.2.2.2.1.1+1) (([]:List UInt8),(([]:List UInt8),()))).1)) (some (((),p10.1.2.2.1,(),p10.1.2.2.2.2.2.1,p10.1.2.2.2.2.2.2.1,p10.1.2.2.2.2.2.2.2.1,()),(p10.2.1,((((([79,82,32]:List UInt8)++(List.getD p10.2.1 p10.1.2.2.2.1.1 (([]:List UInt8),(([]:List UInt8),()))).1)++([32]:List UInt8))++(List.getD p10.2.1 (p10.1.2.2.2.1.1+1) (([]:List UInt8),(([]:List UInt8),()))).1),(),()),()))) none) none) none) none) none) λp11=>(some (p11.1,(p11.2.1,(p11.2.2.1.1,([]:List UInt8),()),())))) (Option.bind (some (((),(),p10.1.2.2.1,(p10.1.2.2.2.1.1,p10.1.2.2.2.1.2),(),p10.1.2.2.2.2.2.1,p10.1.2.2.2.2.2.2.1,p10.1.2.2.2.2.2.2.2.1,(decide (p10.1.2.2.2.2.2.2.2.2.1=(16:Int))),()),(p10.2.1,p10.2.2.1,((),(),()),()))) λp12=>(cond p12.1.2.2.2.2.2.2.2.2.1 (Option.bind (cond (decide ((0:Int)<((p12.1.2.2.2.1.2:Nat):Int))) (some (((),p12.1.2.2.1,(p12.1.2.2.2.1.1,p12.1.2.2.2.1.2),(),p12.1.2.2.2.2.2.1,p12.1.2.2.2.2.2.2.1,p12.1.2.2.2.2.2.2.2.1,()),(p12.2.1,((),(List.getD p12.2.1 p12.1.2.2.2.1.1 (([]:List UInt8),(([]:List UInt8),()))).1,()),()))) none) λp13=>(Option.bind (Option.bind (cond (decide ((0:Int)<((p13.1.2.2.1.2:Nat):Int))) (some (((),p13.1.2.1,(p13.1.2.2.1.1,p13.1.2.2.1.2),(),p13.1.2.2.2.2.1,p13.1.2.2.2.2.2.1,p13.1.2.2.2.2.2.2.1,(!(decide ((List.getD p13.2.1 p13.1.2.2.1.1 (([]:List UInt8),(([]:List UInt8),()))).2.1=([]:List UInt8)))),()),p13.2)) none) λp14=>(cond p14.1.2.2.2.2.2.2.2.1 (Option.bind (cond (decide ((0:Int)<((p14.1.2.2.1.2:Nat):Int))) (some (((),p14.1.2.1,(p14.1.2.2.1.1,p14.1.2.2.1.2),(),p14.1.2.2.2.2.1,p14.1.2.2.2.2.2.1,p14.1.2.2.2.2.2.2.1,()),(p14.2.1,((),(List.getD p14.2.1 p14.1.2.2.1.1 (([]:List UInt8),(([]:List UInt8),()))).2.1,()),()))) none) λp15=>(some (((),p15.1.2.1,(p15.1.2.2.1.1,p15.1.2.2.1.2),(),p15.1.2.2.2.2.1,p15.1.2.2.2.2.2.1,p15.1.2.2.2.2.2.2.1,()),p15.2))) (some (((),p14.1.2.1,(p14.1.2.2.1.1,p14.1.2.2.1.2),(),p14.1.2.2.2.2.1,p14.1.2.2.2.2.2.1,p14.1.2.2.2.2.2.2.1,()),p14.2)))) λp16=>(Option.bind (cond (decide ((1:Int)<((p16.1.2.2.1.2:Nat):Int))) (cond (fits (List.length ([32]:List UInt8)+List.length (List.getD p16.2.1 (p16.1.2.2.1.1+1) (([]:List UInt8),(([]:List UInt8),()))).1)) (cond (fits (List.length p16.2.2.1.2.1+List.length (([32]:List UInt8)++(List.getD p16.2.1 (p16.1.2.2.1.1+1) (([]:List UInt8),(([]:List UInt8),()))).1))) (some (((),p16.1.2.1,(),p16.1.2.2.2.2.1,p16.1.2.2.2.2.2.1,p16.1.2.2.2.2.2.2.1,()),(p16.2.1,((),(p16.2.2.1.2.1++(([32]:List UInt8)++(List.getD p16.2.1 (p16.1.2.2.1.1+1) (([]:List UInt8),(([]:List UInt8),()))).1)),()),()))) none) none) none) λp17=>(Option.bind (cond (fits (List.length ([40]:List UInt8)+List.length p17.2.2.1.2.1)) (cond (fits (List.length (([40]:List UInt8)++p17.2.2.1.2.1)+List.length ([41]:List UInt8))) (some (p17.1,(p17.2.1,(((([40]:List UInt8)++p17.2.2.1.2.1)++([41]:List UInt8)),p17.2.2.1.2.1,()),()))) none) none) λp18=>(some p18))))) (Option.bind (F35 ((p12.2.2.1,()),())) λr19=>(some (((),p12.1.2.2.1,(),p12.1.2.2.2.2.2.1,p12.1.2.2.2.2.2.2.1,p12.1.2.2.2.2.2.2.2.1,()),(p12.2.1,(r19.1,([]:List UInt8),()),()))))))))))) λp20=>(Option.bind (agr (cond (((decide ((0:Int)<=p20.1.2.1))&&(decide (p20.1.2.1<=p20.1.2.1)))&&(decide (p20.1.2.1<=(p20.2.1.length:Int)))) (cond (decide (p20.2.2.1.1=p20.2.2.1.1)) (cond (decide (p20.2.2.1.2.1=p20.2.2.1.2.1)) (cond (bytesOK ((List.length (List.take p20.1.2.1.toNat p20.2.1))+(List.length ([(p20.2.2.1.1,(p20.2.2.1.2.1,()))]:List (Q5×Q21)))) 32) (some (((),p20.1.2.2.2.1,p20.1.2.2.2.2.1,p20.1.2.2.2.2.2.1,()),(((List.take p20.1.2.1.toNat p20.2.1)++([(p20.2.2.1.1,(p20.2.2.1.2.1,()))]:List (Q5×Q21))),()))) none) none) none) none) (cond (((decide ((0:Int)<=p20.1.2.1))&&(decide (p20.1.2.1<=p20.1.2.1)))&&(decide (p20.1.2.1<=(p20.2.1.length:Int)))) (cond (decide (p20.2.2.1.1=p20.2.2.1.1)) (cond (decide (p20.2.2.1.2.1=p20.2.2.1.2.1)) (cond (bytesOK ((List.length (List.take p20.1.2.1.toNat p20.2.1))+(List.length ([(p20.2.2.1.1,(p20.2.2.1.2.1,()))]:List (Q5×Q21)))) 32) (some (((),p20.1.2.2.2.1,p20.1.2.2.2.2.1,p20.1.2.2.2.2.2.1,()),(((List.take p20.1.2.1.toNat p20.2.1)++([(p20.2.2.1.1,(p20.2.2.1.2.1,()))]:List (Q5×Q21))),()))) none) none) none) none)) λp21=>(some p21))))))) λp22=>(some (Sum.inl (((),p22.1.2.1,p22.1.2.2.1,(w64 (p22.1.2.2.2.1+(1:Int))),()),p22.2)))) (some (Sum.inr (((),()),p.2))))
noncomputable def L19_0 (p:T19_0):Option R19_0:=loopOf B19_0 p
noncomputable def H19_0:HT:=(.two .leaf (.two .leaf (.two (.join [(.normal,⟨[(5,(.own 0)),(16,(.sl Q0)),(17,(.i .i64)),(18,(.i .i64))],[(0,Q22)],1⟩)] (.one (.two (.join [(.normal,⟨[(5,(.own 0)),(7,(.ptr 1 0)),(16,(.sl Q0)),(17,(.i .i64)),(18,(.i .i64))],[(0,Q22),(1,Q40)],2⟩)] .leaf) (.two (.join [(.normal,⟨[(5,(.own 0)),(7,(.ptr 1 0)),(8,(.i .i64)),(16,(.sl Q0)),(17,(.i .i64)),(18,(.i .i64))],[(0,Q22),(1,Q40)],2⟩)] .leaf) (.two (.join [(.normal,⟨[(5,(.own 0)),(7,(.ptr 1 0)),(8,(.i .i64)),(9,(.win 0)),(16,(.sl Q0)),(17,(.i .i64)),(18,(.i .i64))],[(0,Q22),(1,Q40)],2⟩)] .leaf) (.two (.join [(.normal,⟨[(5,(.own 0)),(7,(.ptr 1 0)),(8,(.i .i64)),(9,(.win 0)),(10,(.ptr 2 0)),(16,(.sl Q0)),(17,(.i .i64)),(18,(.i .i64))],[(0,Q22),(1,Q40),(2,(.vars (.cons (.ks ([]:List UInt8)) (.cons (.ks ([]:List UInt8)) .nil))))],3⟩)] .leaf) (.two (.join [(.normal,⟨[(5,(.own 0)),(8,(.i .i64)),(10,(.ptr 1 0)),(16,(.sl Q0)),(17,(.i .i64)),(18,(.i .i64))],[(0,Q22),(1,(.vars Q77))],2⟩)] (.two (.join [(.normal,⟨[(5,(.own 0)),(7,(.ptr 1 0)),(8,(.i .i64)),(9,(.win 0)),(10,(.ptr 2 0)),(16,(.sl Q0)),(17,(.i .i64)),(18,(.i .i64)),(33,(.i .i64))],[(0,Q22),(1,Q40),(2,(.vars (.cons (.ks ([]:List UInt8)) (.cons (.ks ([]:List UInt8)) .nil))))],3⟩)] .leaf) (.one (.two (.join [(.normal,⟨[(5,(.own 0)),(7,(.ptr 1 0)),(8,(.i .i64)),(9,(.win 0)),(10,(.ptr 2 0)),(16,(.sl Q0)),(17,(.i .i64)),(18,(.i .i64)),(33,(.i .i64)),(37,.b)],[(0,Q22),(1,Q40),(2,(.vars (.cons (.ks ([]:List UInt8)) (.cons (.ks ([]:List UInt8)) .nil))))],3⟩)] .leaf) (.two (.join [(.normal,⟨[(5,(.own 0)),(8,(.i .i64)),(10,(.ptr 1 0)),(16,(.sl Q0)),(17,(.i .i64)),(18,(.i .i64))],[(0,Q22),(1,(.vars (.cons .s (.cons (.ks ([]:List UInt8)) .nil))))],2⟩)] .leaf) (.two (.join [(.normal,⟨[(5,(.own 0)),(7,(.ptr 1 0)),(8,(.i .i64)),(9,(.win 0)),(10,(.ptr 2 0)),(16,(.sl Q0)),(17,(.i .i64)),(18,(.i .i64)),(33,(.i .i64)),(45,.b)],[(0,Q22),(1,Q40),(2,(.vars (.cons (.ks ([]:List UInt8)) (.cons (.ks ([]:List UInt8)) .nil))))],3⟩)] .leaf) (.two (.join [(.normal,⟨[(5,(.own 0)),(8,(.i .i64)),(10,(.ptr 1 0)),(16,(.sl Q0)),(17,(.i .i64)),(18,(.i .i64))],[(0,Q22),(1,(.vars (.cons .s (.cons (.ks ([]:List UInt8)) .nil))))],2⟩)] .leaf) (.two (.join [(.normal,⟨[(5,(.own 0)),(7,(.ptr 1 0)),(8,(.i .i64)),(9,(.win 0)),(10,(.ptr 2 0)),(16,(.sl Q0)),(17,(.i .i64)),(18,(.i .i64)),(59,.b)],[(0,Q22),(1,Q40),(2,(.vars (.cons (.ks ([]:List UInt8)) (.cons (.ks ([]:List UInt8)) .nil))))],3⟩)] .leaf) (.two (.two (.join [(.normal,⟨[(5,(.own 0)),(8,(.i .i64)),(9,(.win 0)),(10,(.ptr 1 0)),(16,(.sl Q0)),(17,(.i .i64)),(18,(.i .i64))],[(0,Q22),(1,(.vars (.cons (.ks ([]:List UInt8)) Q20)))],2⟩)] .leaf) (.two (.join [(.normal,⟨[(5,(.own 0)),(8,(.i .i64)),(9,(.win 0)),(10,(.ptr 1 0)),(16,(.sl Q0)),(17,(.i .i64)),(18,(.i .i64))],[(0,Q22),(1,(.vars (.cons (.ks ([]:List UInt8)) Q20)))],2⟩)] (.two (.join [(.normal,⟨[(5,(.own 0)),(8,(.i .i64)),(9,(.win 0)),(10,(.ptr 1 0)),(16,(.sl Q0)),(17,(.i .i64)),(18,(.i .i64)),(70,.b)],[(0,Q22),(1,(.vars (.cons (.ks ([]:List UInt8)) Q20)))],2⟩)] .leaf) (.two (.join [(.normal,⟨[(5,(.own 0)),(8,(.i .i64)),(9,(.win 0)),(10,(.ptr 1 0)),(16,(.sl Q0)),(17,(.i .i64)),(18,(.i .i64))],[(0,Q22),(1,(.vars (.cons (.ks ([]:List UInt8)) Q20)))],2⟩)] .leaf) .leaf))) (.two (.join [(.normal,⟨[(5,(.own 0)),(8,(.i .i64)),(10,(.ptr 1 0)),(16,(.sl Q0)),(17,(.i .i64)),(18,(.i .i64))],[(0,Q22),(1,(.vars (.cons (.ks ([]:List UInt8)) Q20)))],2⟩)] .leaf) (.join [(.normal,⟨[(5,(.own 0)),(8,(.i .i64)),(10,(.ptr 1 0)),(16,(.sl Q0)),(17,(.i .i64)),(18,(.i .i64))],[(0,Q22),(1,(.vars Q77))],2⟩)] .leaf)))) .leaf))))))))) (.join [(.normal,⟨[(5,(.own 0)),(16,(.sl Q0)),(17,(.i .i64)),(18,(.i .i64))],[(0,Q22)],1⟩)] .leaf)))))))) .leaf)))
noncomputable def F19 (p:Q73×Unit):Option Q41:=(Option.bind (F14 ((p.1.1,()),())) λr1=>(cond (!(decide (r1.1=(0:Int)))) (some ((([]:List UInt8),r1.1,()),())) (Option.bind (Option.bind (L19_0 (((),p.1.1,(p.1.1.length:Int),(0:Int),()),(([]:List (Q5×Q21)),()))) λp23=>(some (((),()),p23.2))) λp24=>(cond (decide ((0:Int)<(p24.2.1.length:Int))) (some (((List.getD p24.2.1 0 (([]:List UInt8),(([]:List UInt8),()))).1,(0:Int),()),())) none))))
noncomputable def O19:Orc:=⟨(.cons (.sl Q0) .nil),[],(.tup (.cons .s Q10)),[],F19⟩
noncomputable def H19:HT:=(.two .leaf (.two .leaf (.two .leaf (.two (.join [(.normal,⟨[(5,(.own 0))],[(0,Q22)],1⟩)] (.two .leaf (.one (.loop S19_0 U19_0 L19_0 H19_0)))) .leaf))))
noncomputable def X19:List (FuncId×Orc):=[(14,O14),(27,O27),(35,O35)]
theorem round19_0 (p):round Tryz.prog (CX X19 [] [] []) (MX X19 []) 0 102 (subc (bodyOf Tryz.f19) [true,true,true,false,true,false,false]) H19_0 S19_0 U19_0 p=B19_0 p:=by kernel_rfl
theorem run19 (p):evTop Tryz.prog (CX X19 [] [] []) (MX X19 []) Tryz.f19 H19 O19 p=F19 p:=by kernel_rfl
theorem ok19:O19.OK Tryz.prog 19:=okk run19 Tryz.func19 Tryz.call19 (ls:=[⟨subc (bodyOf Tryz.f19) [true,true,true,false,true,false,false],H19_0,S19_0,U19_0,L19_0⟩]) ⟨LoopRec.of rfl round19_0,trivial⟩ (hX:=⟨ok14,⟨ok27,⟨ok35,trivial⟩⟩⟩)
noncomputable def F52 (p:Q21×Unit):Option Q41:=(cond ((((!(List.isEmpty p.1.1))&&(decide ((List.length p.1.1)<4294967281)))&&true)&&true) (cond (decide ((Go.Lib.index p.1.1 ([(13:UInt8),(10:UInt8)]:List UInt8))<(0:Int))) (some ((p.1.1,(p.1.1.length:Int),()),())) (cond ((decide ((0:Int)<=(Go.Lib.index p.1.1 ([(13:UInt8),(10:UInt8)]:List UInt8))))&&(decide ((Go.Lib.index p.1.1 ([(13:UInt8),(10:UInt8)]:List UInt8))<=(p.1.1.length:Int)))) (some (((List.take (Int.toNat (Go.Lib.index p.1.1 ([(13:UInt8),(10:UInt8)]:List UInt8))) p.1.1),(w64 ((Go.Lib.index p.1.1 ([(13:UInt8),(10:UInt8)]:List UInt8))+(2:Int))),()),())) none)) none)
noncomputable def O52:Orc:=⟨(.cons (.sl .u8) .nil),[],(.tup (.cons (.sl .u8) Q10)),[],F52⟩
noncomputable def H52:HT:=.leaf
noncomputable def Z52:List (FuncId×Deed):=[(89,(zPvr pIndexB))]
theorem run52 (p):evTop Tryz.prog (CX [] [] Z52 []) (MX [] []) Tryz.f52 H52 O52 p=F52 p:=by kernel_rfl
theorem ok52:O52.OK Tryz.prog 52:=ok0 run52 Tryz.func52 Tryz.call52 (hZ:=⟨zIndex89,trivial⟩)
noncomputable def F90 (p:Q21×Unit):Option Q21:=(cond (((decide ((List.length p.1.1)<=9223372036854775807))&&true)&&true) (some ((Go.Lib.trimS p.1.1 ([32,9]:List UInt8)),())) none)
noncomputable def O90:Orc:=⟨Q20,[],.s,[],F90⟩
noncomputable def H90:HT:=.leaf
noncomputable def Z90:List (FuncId×Deed):=[(144,(zPv pTrim))]
theorem run90 (p):evTop Tryz.prog (CX [] [] Z90 []) (MX [] []) Tryz.f90 H90 O90 p=F90 p:=by kernel_rfl
theorem ok90:O90.OK Tryz.prog 90:=ok0 run90 Tryz.func90 Tryz.call90 (hZ:=⟨zTrim144,trivial⟩)
noncomputable def S53_0:Shape:=⟨[(0,(.own 0)),(5,(.i .i64)),(6,(.i .i64))],[(0,Q48)],1⟩
noncomputable def U53_0:Outs:=[((.exit 0),⟨[(0,(.own 0))],[(0,Q48)],1⟩)]
abbrev T53_0:Type:=(Q50×Q57)
abbrev R53_0:Type:=(Q23×Q57)
noncomputable def B53_0 (p:T53_0):Option (T53_0⊕R53_0):=(cond (decide (p.1.2.2.1<p.1.2.1)) (Option.bind (cond ((decide ((0:Int)<=p.1.2.2.1))&&(decide (p.1.2.2.1<(p.2.1.length:Int)))) (Option.bind (F90 (((List.getD p.2.1 p.1.2.2.1.toNat (([]:List UInt8),(([]:List UInt8),((0:Int),())))).2.1,()),())) λr1=>(cond ((decide ((0:Int)<=p.1.2.2.1))&&(decide (p.1.2.2.1<(p.2.1.length:Int)))) (some (p.1,((List.set p.2.1 p.1.2.2.1.toNat ((List.getD p.2.1 p.1.2.2.1.toNat (([]:List UInt8),(([]:List UInt8),((0:Int),())))).1,(r1.1,((List.getD p.2.1 p.1.2.2.1.toNat (([]:List UInt8),(([]:List UInt8),((0:Int),())))).2.2.1,())))),()))) none)) none) λp2=>(Option.bind (some (((),p2.1.2.1,(w64 (p2.1.2.2.1+(1:Int))),()),p2.2)) λp3=>(some (Sum.inl p3)))) (some (Sum.inr (((),()),p.2))))
noncomputable def L53_0 (p:T53_0):Option R53_0:=loopOf B53_0 p
noncomputable def H53_0:HT:=(.two .leaf (.two .leaf (.two (.one (.two .leaf (.join [(.normal,⟨[(0,(.own 0)),(5,(.i .i64)),(6,(.i .i64))],[(0,Q48)],1⟩)] .leaf))) (.join [(.normal,⟨[(0,(.own 0)),(5,(.i .i64)),(6,(.i .i64))],[(0,Q48)],1⟩)] .leaf))))
noncomputable def F53 (p:Q23×Q57):Option (Unit×Q57):=(Option.bind (Option.bind (L53_0 (((),(p.2.1.length:Int),(0:Int),()),(p.2.1,()))) λp4=>(some (((),()),p4.2))) λp5=>(some ((),p5.2)))
noncomputable def O53:Orc:=⟨(.cons (.own 0) .nil),[(0,Q48)],(.own 0),[(0,Q48)],F53⟩
noncomputable def H53:HT:=(.two .leaf (.two (.join [(.normal,⟨[(0,(.own 0))],[(0,Q48)],1⟩)] (.two .leaf (.one (.loop S53_0 U53_0 L53_0 H53_0)))) .leaf))
noncomputable def X53:List (FuncId×Orc):=[(90,O90)]
theorem round53_0 (p):round Tryz.prog (CX X53 [] [] []) (MX X53 []) 1 21 (subc (bodyOf Tryz.f53) [true,false,true,false,false]) H53_0 S53_0 U53_0 p=B53_0 p:=by kernel_rfl
theorem run53 (p):evTop Tryz.prog (CX X53 [] [] []) (MX X53 []) Tryz.f53 H53 O53 p=F53 p:=by kernel_rfl
theorem ok53:O53.OK Tryz.prog 53:=okk run53 Tryz.func53 Tryz.call53 (ls:=[⟨subc (bodyOf Tryz.f53) [true,false,true,false,false],H53_0,S53_0,U53_0,L53_0⟩]) ⟨LoopRec.of rfl round53_0,trivial⟩ (hX:=⟨ok90,trivial⟩)
noncomputable def S29_0:Shape:=⟨[(0,(.sl .u8)),(5,(.own 0)),(6,(.i .i64))],[(0,Q48)],1⟩
noncomputable def U29_0:Outs:=[((.exit 0),⟨[(0,(.sl .u8)),(5,(.own 0))],[(0,Q48)],1⟩),(.ret,⟨[(2,(.own 0)),(3,(.i .i64)),(4,(.i .i64))],[(0,Q48)],1⟩)]
abbrev T29_0:Type:=((Q5×Unit×Int×Unit)×Q57)
abbrev R29_0:Type:=(((Q5×Unit×Unit)×Q57)⊕(Q50×Q57))
noncomputable def B29_0 (p:T29_0):Option (T29_0⊕R29_0):=(cond (decide (p.1.2.2.1<(p.1.1.length:Int))) (cond (((decide ((0:Int)<=p.1.2.2.1))&&(decide (p.1.2.2.1<=(p.1.1.length:Int))))&&(decide ((p.1.1.length:Int)<=(p.1.1.length:Int)))) (Option.bind (F52 (((List.take ((Int.toNat (p.1.1.length:Int))-p.1.2.2.1.toNat) (List.drop p.1.2.2.1.toNat p.1.1)),()),())) λr1=>(cond (decide ((r1.1.1.length:Int)=(0:Int))) (Option.bind (F53 (((),()),p.2)) λr2=>(some (Sum.inr (Sum.inr (((),(w64 (p.1.2.2.1+r1.1.2.1)),(0:Int),()),(r2.2.1,())))))) (cond (decide ((1024:Int)<(r1.1.1.length:Int))) (some (Sum.inr (Sum.inr (((),p.1.2.2.1,(6:Int),()),(([]:List Q28),()))))) (cond (decide ((0:Int)<(r1.1.1.length:Int))) (Option.bind (F54 (((List.getD r1.1.1 0 (0:UInt8)),()),())) λr3=>(cond (r3.1&&(decide ((0:Int)<(p.2.1.length:Int)))) (Option.bind (cond ((decide ((0:Int)<=(w64 ((p.2.1.length:Int)-(1:Int)))))&&(decide ((w64 ((p.2.1.length:Int)-(1:Int)))<(p.2.1.length:Int)))) (cond (fits (List.length (List.getD p.2.1 (Int.toNat (w64 ((p.2.1.length:Int)-(1:Int)))) (([]:List UInt8),(([]:List UInt8),((0:Int),())))).2.1+List.length r1.1.1)) (cond ((decide ((0:Int)<=(w64 ((p.2.1.length:Int)-(1:Int)))))&&(decide ((w64 ((p.2.1.length:Int)-(1:Int)))<(p.2.1.length:Int)))) (some ((p.1.1,(),p.1.2.2.1,r1.1.2.1,()),((List.set p.2.1 (Int.toNat (w64 ((p.2.1.length:Int)-(1:Int)))) ((List.getD p.2.1 (Int.toNat (w64 ((p.2.1.length:Int)-(1:Int)))) (([]:List UInt8),(([]:List UInt8),((0:Int),())))).1,(((List.getD p.2.1 (Int.toNat (w64 ((p.2.1.length:Int)-(1:Int)))) (([]:List UInt8),(([]:List UInt8),((0:Int),())))).2.1++r1.1.1),((List.getD p.2.1 (Int.toNat (w64 ((p.2.1.length:Int)-(1:Int)))) (([]:List UInt8),(([]:List UInt8),((0:Int),())))).2.2.1,())))),()))) none) none) none) λp4=>(Option.bind (some ((p4.1.1,(),(w64 (p4.1.2.2.1+p4.1.2.2.2.1)),()),p4.2)) λp5=>(some (Sum.inl p5)))) (cond (!(List.isEmpty r1.1.1)) (cond (((decide ((0:Int)<=(Go.Lib.indexByte r1.1.1 (58:UInt8))))&&(decide ((Go.Lib.indexByte r1.1.1 (58:UInt8))<=(r1.1.1.length:Int))))||(decide ((Go.Lib.indexByte r1.1.1 (58:UInt8))<(0:Int)))) (cond (!(decide ((Go.Lib.indexByte r1.1.1 (58:UInt8))<(0:Int)))) (Option.bind (F56 (((List.take (Int.toNat (Go.Lib.indexByte r1.1.1 (58:UInt8))) r1.1.1),()),())) λr6=>(cond (!r6.1) (some (Sum.inr (Sum.inr (((),p.1.2.2.1,(4:Int),()),(([]:List Q28),()))))) (cond (decide ((p.2.1.length:Int)=(40:Int))) (some (Sum.inr (Sum.inr (((),p.1.2.2.1,(6:Int),()),(([]:List Q28),()))))) (Option.bind (cond ((decide ((0:Int)<=(Go.Lib.indexByte r1.1.1 (58:UInt8))))&&(decide ((Go.Lib.indexByte r1.1.1 (58:UInt8))<=(r1.1.1.length:Int)))) (cond (((decide ((0:Int)<=(w64 ((Go.Lib.indexByte r1.1.1 (58:UInt8))+(1:Int)))))&&(decide ((w64 ((Go.Lib.indexByte r1.1.1 (58:UInt8))+(1:Int)))<=(r1.1.1.length:Int))))&&(decide ((r1.1.1.length:Int)<=(r1.1.1.length:Int)))) (cond (bytesOK ((List.length p.2.1)+(List.length ([((List.take (Int.toNat (Go.Lib.indexByte r1.1.1 (58:UInt8))) r1.1.1),((List.take ((Int.toNat (r1.1.1.length:Int))-(Int.toNat (w64 ((Go.Lib.indexByte r1.1.1 (58:UInt8))+(1:Int))))) (List.drop (Int.toNat (w64 ((Go.Lib.indexByte r1.1.1 (58:UInt8))+(1:Int)))) r1.1.1)),(p.1.2.2.1,())))]:List Q28))) 40) (some ((p.1.1,(),p.1.2.2.1,r1.1.2.1,()),((p.2.1++([((List.take (Int.toNat (Go.Lib.indexByte r1.1.1 (58:UInt8))) r1.1.1),((List.take ((Int.toNat (r1.1.1.length:Int))-(Int.toNat (w64 ((Go.Lib.indexByte r1.1.1 (58:UInt8))+(1:Int))))) (List.drop (Int.toNat (w64 ((Go.Lib.indexByte r1.1.1 (58:UInt8))+(1:Int)))) r1.1.1)),(p.1.2.2.1,())))]:List Q28)),()))) none) none) none) λp7=>(Option.bind (some ((p7.1.1,(),(w64 (p7.1.2.2.1+p7.1.2.2.2.1)),()),p7.2)) λp8=>(some (Sum.inl p8))))))) (some (Sum.inr (Sum.inr (((),p.1.2.2.1,(4:Int),()),(([]:List Q28),())))))) none) none))) none)))) none) (some (Sum.inr (Sum.inl ((p.1.1,(),()),p.2)))))
noncomputable def L29_0 (p:T29_0):Option R29_0:=loopOf B29_0 p
noncomputable def H29_0:HT:=(.two .leaf (.one (.two .leaf (.two (.one (.two .leaf (.two .leaf (.two .leaf (.two .leaf (.two .leaf (.two (.two (.join [(.normal,⟨[(0,(.sl .u8)),(5,(.own 0)),(6,(.i .i64)),(8,(.i .i64))],[(0,Q48)],1⟩)] .leaf) (.two (.join [(.normal,⟨[(0,(.sl .u8)),(5,(.own 0)),(6,(.i .i64))],[(0,Q48)],1⟩)] .leaf) .leaf)) .leaf))))))) (.two .leaf (.two .leaf (.two (.join [(.normal,⟨[(0,(.sl .u8)),(5,(.own 0)),(6,(.i .i64)),(8,(.i .i64))],[(0,Q48)],1⟩)] .leaf) (.join [(.normal,⟨[(0,(.sl .u8)),(5,(.own 0)),(6,(.i .i64))],[(0,Q48)],1⟩)] .leaf))))))))
noncomputable def F29 (p:Q21×Unit):Option (((List Q28)×Int×Int×Unit)×Unit):=(Option.bind (Option.bind (L29_0 ((p.1.1,(),(0:Int),()),(([]:List Q28),()))) λp9=>(match p9 with | Sum.inl p10=>(some (Sum.inl p10)) | Sum.inr q10=>(some (Sum.inr q10)))) λp11=>(match p11 with | Sum.inl p12=>(Option.bind (F53 (((),()),p12.2)) λr13=>(some ((r13.2.1,(p12.1.1.length:Int),(0:Int),()),()))) | Sum.inr q12=>(some ((q12.2.1,q12.1.2.1,q12.1.2.2.1,()),()))))
noncomputable def O29:Orc:=⟨(.cons (.sl .u8) .nil),[],(.tup (.cons (.sl Q7) Q6)),[],F29⟩
noncomputable def H29:HT:=(.two .leaf (.two .leaf (.two .leaf (.two (.join [(.normal,⟨[(0,(.sl .u8)),(5,(.own 0))],[(0,Q48)],1⟩),(.ret,⟨[(2,(.own 0)),(3,(.i .i64)),(4,(.i .i64))],[(0,Q48)],1⟩)] (.one (.loop S29_0 U29_0 L29_0 H29_0))) .leaf))))
noncomputable def X29:List (FuncId×Orc):=[(52,O52),(53,O53),(54,O54),(56,O56)]
noncomputable def Z29:List (FuncId×Deed):=[(55,(zPv pBytesIndexByte))]
theorem round29_0 (p):round Tryz.prog (CX X29 [] Z29 []) (MX X29 []) 0 100 (subc (bodyOf Tryz.f29) [true,true,true,false,false,false]) H29_0 S29_0 U29_0 p=B29_0 p:=by kernel_rfl
theorem run29 (p):evTop Tryz.prog (CX X29 [] Z29 []) (MX X29 []) Tryz.f29 H29 O29 p=F29 p:=by kernel_rfl
theorem ok29:O29.OK Tryz.prog 29:=okk run29 Tryz.func29 Tryz.call29 (ls:=[⟨subc (bodyOf Tryz.f29) [true,true,true,false,false,false],H29_0,S29_0,U29_0,L29_0⟩]) ⟨LoopRec.of rfl round29_0,trivial⟩ (hX:=⟨ok52,⟨ok53,⟨ok54,⟨ok56,trivial⟩⟩⟩⟩) (hZ:=⟨zBytesIndexByte55,trivial⟩)
noncomputable def F16 (p:(Q18×Unit)×Unit):Option (Q43×Unit):=(Option.bind (F29 ((p.1.1.2.2.2.2.2.1,()),())) λr1=>(Option.bind (cond (!(decide (r1.1.2.2.1=(0:Int)))) (some (((),(),([]:List Q28),(0:Int),()),(p.1.1,((),(),(),(),(0:UInt8),(),(),(),()),([]:List UInt8),([]:List Q28),()))) (some (((),(),r1.1.1,r1.1.2.1,()),(p.1.1,((),(),(),(),(0:UInt8),(),(),(),()),([]:List UInt8),([]:List Q28),())))) λp2=>(cond (((decide ((0:Int)<=p2.1.2.2.2.1))&&(decide (p2.1.2.2.2.1<=(p2.2.1.2.2.2.2.2.1.length:Int))))&&(decide ((p2.2.1.2.2.2.2.2.1.length:Int)<=(p2.2.1.2.2.2.2.2.1.length:Int)))) (some ((p2.2.1.1,p2.2.1.2.1,p2.2.1.2.2.1,p2.2.1.2.2.2.1,p2.2.1.2.2.2.2.1,p2.2.1.2.2.2.2.2.1,p2.1.2.2.1,(List.take ((Int.toNat (p2.2.1.2.2.2.2.2.1.length:Int))-p2.1.2.2.2.1.toNat) (List.drop p2.1.2.2.2.1.toNat p2.2.1.2.2.2.2.2.1)),()),())) none)))
noncomputable def O16:Orc:=⟨(.cons (.agg Q9) .nil),[],(.agg Q15),[],F16⟩
noncomputable def H16:HT:=(.two .leaf (.two .leaf (.two (.join [(.normal,⟨[(1,(.ptr 0 0)),(2,(.ptr 1 0)),(3,(.sl Q7)),(4,(.i .i64))],[(0,Q68),(1,(.vars (.cons (.ki .i64 (0)) (.cons (.ki .i64 (0)) (.cons (.ki .i64 (0)) (.cons (.ki .i64 (0)) (.cons .u (.cons (.own 2) (.cons (.own 3) (.cons (.ks ([]:List UInt8)) .nil)))))))))),(2,Q83),(3,Q48)],4⟩)] .leaf) .leaf)))
noncomputable def X16:List (FuncId×Orc):=[(29,O29)]
theorem run16 (p):evTop Tryz.prog (CX X16 [] [] []) (MX X16 []) Tryz.f16 H16 O16 p=F16 p:=by kernel_rfl
theorem ok16:O16.OK Tryz.prog 16:=ok0 run16 Tryz.func16 Tryz.call16 (hX:=⟨ok29,trivial⟩)
def F135 (p:(Q32×Unit×Unit)×Q45):Option (Bool×Q45):=(some (((decide (p.1.1.1<=p.2.1.1))&&(decide (p.2.1.1<=p.1.1.2.1))),(p.2.1,())))
def O135:Orc:=⟨(.cons (.agg Q6) Q19),[(0,Q33)],.b,[(0,Q33)],F135⟩
theorem run135 (p):evTop Tryz.prog (CX [] [] [] []) (MX [] []) Tryz.f135 .leaf O135 p=F135 p:=by kernel_rfl
theorem ok135:O135.OK Tryz.prog 135:=ok0 run135 Tryz.func135 Tryz.call135
def S175c135_0:Shape:=⟨[(0,(.sl Q4)),(1,(.fn 135 Q19)),(7,(.i .i64)),(8,(.i .i64))],[(0,Q33)],1⟩
def U175c135_0:Outs:=[((.exit 0),⟨[(1,(.fn 135 Q19))],[(0,Q33)],1⟩),(.ret,⟨[(1,(.fn 135 Q19)),(4,(.i .i64))],[(0,Q33)],1⟩)]
abbrev T175c135_0:Type:=((Q25×Q23×Int×Int×Unit)×Q45)
abbrev R175c135_0:Type:=((Q65×Q45)⊕((Q23×Int×Unit)×Q45))
def B175c135_0 (p:T175c135_0):Option (T175c135_0⊕R175c135_0):=(cond (decide (p.1.2.2.2.1<p.1.2.2.1)) (cond ((decide ((0:Int)<=p.1.2.2.2.1))&&(decide (p.1.2.2.2.1<(p.1.1.length:Int)))) (Option.bind (F135 ((((List.getD p.1.1 p.1.2.2.2.1.toNat ((0:Int),((0:Int),()))).1,(List.getD p.1.1 p.1.2.2.2.1.toNat ((0:Int),((0:Int),()))).2.1,()),(),()),p.2)) λr1=>(cond r1.1 (some (Sum.inr (Sum.inr ((((),()),p.1.2.2.2.1,()),(r1.2.1,()))))) (some (Sum.inl ((p.1.1,((),()),p.1.2.2.1,(w64 (p.1.2.2.2.1+(1:Int))),()),(r1.2.1,())))))) none) (some (Sum.inr (Sum.inl ((((),()),()),p.2)))))
def L175c135_0 (p:T175c135_0):Option R175c135_0:=loopOf B175c135_0 p
def F175c135 (p:(Q25×Q23×Unit)×Q45):Option (Int×Q45):=(Option.bind (Option.bind (L175c135_0 ((p.1.1,((),()),(p.1.1.length:Int),(0:Int),()),(p.2.1,()))) λp2=>(match p2 with | Sum.inl p3=>(some (Sum.inl ((((),()),()),p3.2))) | Sum.inr q3=>(some (Sum.inr ((((),()),q3.1.2.1,()),q3.2))))) λp4=>(match p4 with | Sum.inl p5=>(some ((-1:Int),p5.2)) | Sum.inr q5=>(some (q5.1.2.1,q5.2))))
def O175c135:Orc:=⟨(.cons (.sl Q4) (.cons (.fn 135 Q19) .nil)),[(0,Q33)],(.i .i64),[(0,Q33)],F175c135⟩
def H175c135:HT:=(.two .leaf (.two (.join [(.normal,⟨[(1,(.fn 135 Q19))],[(0,Q33)],1⟩),(.ret,⟨[(1,(.fn 135 Q19)),(4,(.i .i64))],[(0,Q33)],1⟩)] (.two .leaf (.one (.loop S175c135_0 U175c135_0 L175c135_0 .leaf)))) .leaf))
def X175c135:List (FuncId×Orc):=[(135,O135)]
theorem round175c135_0 (p):round Tryz.prog (CX X175c135 [] [] []) (MX X175c135 []) 1 19 (subc (bodyOf Tryz.f175) [true,false,true,false,false]) .leaf S175c135_0 U175c135_0 p=B175c135_0 p:=by kernel_rfl
theorem run175c135 (p):evTop Tryz.prog (CX X175c135 [] [] []) (MX X175c135 []) Tryz.f175 H175c135 O175c135 p=F175c135 p:=by kernel_rfl
theorem ok175c135:O175c135.OK Tryz.prog 175:=okk run175c135 Tryz.func175 Tryz.call175 (ls:=[⟨subc (bodyOf Tryz.f175) [true,false,true,false,false],.leaf,S175c135_0,U175c135_0,L175c135_0⟩]) ⟨LoopRec.of rfl round175c135_0,trivial⟩ (hX:=⟨ok135,trivial⟩)
def F134c135 (p:(Q25×Q23×Unit)×Q45):Option (Bool×Q45):=(Option.bind (F175c135 ((p.1.1,((),()),()),(p.2.1,()))) λr1=>(some ((decide ((0:Int)<=r1.1)),(r1.2.1,()))))
def O134c135:Orc:=⟨(.cons (.sl Q4) (.cons (.fn 135 Q19) .nil)),[(0,Q33)],.b,[(0,Q33)],F134c135⟩
def X134c135:List (FuncId×Orc):=[(175,O175c135)]
theorem run134c135 (p):evTop Tryz.prog (CX X134c135 [] [] []) (MX X134c135 []) Tryz.f134 .leaf O134c135 p=F134c135 p:=by kernel_rfl
theorem ok134c135:O134c135.OK Tryz.prog 134:=ok0 run134c135 Tryz.func134 Tryz.call134 (hX:=⟨ok175c135,trivial⟩)
def F83 (p:(Q25×Int×Unit)×Unit):Option Q31:=(Option.bind (F134c135 ((p.1.1,((),()),()),((p.1.2.1,()),()))) λr1=>(some (r1.1,())))
def O83:Orc:=⟨(.cons (.sl Q4) Q10),[],.b,[],F83⟩
def X83:List (FuncId×Orc):=[(134,O134c135)]
theorem run83 (p):evTop Tryz.prog (CX X83 [] [] []) (MX X83 []) Tryz.f83 .leaf O83 p=F83 p:=by kernel_rfl
theorem ok83:O83.OK Tryz.prog 83:=ok0 run83 Tryz.func83 Tryz.call83 (hX:=⟨ok134c135,trivial⟩)
noncomputable def F46 (p:Q70×Unit):Option Q31:=(Option.bind (F77 ((p.1.1,(cond (decide ((4294967295:Int)<(cond (decide (p.1.2.2.1<(0:Int))) (0:Int) p.1.2.2.1))) (4294967295:Int) (cond (decide (p.1.2.2.1<(0:Int))) (0:Int) p.1.2.2.1)),()),())) λr1=>(cond (decide (r1.1.2.2.1=(0:Int))) (Option.bind (F83 ((r1.1.1,p.1.2.1,()),())) λr2=>(some (r2.1,()))) (some (false,()))))
noncomputable def O46:Orc:=⟨(.cons .s Q6),[],.b,[],F46⟩
noncomputable def H46:HT:=.leaf
noncomputable def X46:List (FuncId×Orc):=[(77,O77),(83,O83)]
theorem run46 (p):evTop Tryz.prog (CX X46 [] [] []) (MX X46 []) Tryz.f46 H46 O46 p=F46 p:=by kernel_rfl
theorem ok46:O46.OK Tryz.prog 46:=ok0 run46 Tryz.func46 Tryz.call46 (hX:=⟨ok77,⟨ok83,trivial⟩⟩)
def F86 (p:Q75×Unit):Option Q31:=(Option.bind (F88 ((p.1.1,()),())) λr1=>(Option.bind (F88 ((p.1.2.1,()),())) λr2=>(some ((decide (r1.1=r2.1)),()))))
def O86:Orc:=⟨Q77,[],.b,[],F86⟩
def X86:List (FuncId×Orc):=[(88,O88)]
theorem run86 (p):evTop Tryz.prog (CX X86 [] [] []) (MX X86 []) Tryz.f86 .leaf O86 p=F86 p:=by kernel_rfl
theorem ok86:O86.OK Tryz.prog 86:=ok0 run86 Tryz.func86 Tryz.call86 (hX:=⟨ok88,trivial⟩)
def S49_0:Shape:=⟨[(1,.s),(5,(.own 0)),(8,(.sl Q7)),(9,(.i .i64)),(10,(.i .i64))],[(0,Q27)],1⟩
def U49_0:Outs:=[((.exit 0),⟨[(5,(.own 0))],[(0,Q27)],1⟩)]
abbrev T49_0:Type:=((Q5×Unit×(List Q28)×Int×Int×Unit)×Q29)
abbrev R49_0:Type:=(Q23×Q29)
def B49_0 (p:T49_0):Option (T49_0⊕R49_0):=(cond (decide (p.1.2.2.2.2.1<p.1.2.2.2.1)) (Option.bind (Option.bind (cond ((decide ((0:Int)<=p.1.2.2.2.2.1))&&(decide (p.1.2.2.2.2.1<(p.1.2.2.1.length:Int)))) (some ((p.1.1,(),(),p.1.2.2.1,p.1.2.2.2.1,p.1.2.2.2.2.1,()),(p.2.1,((List.getD p.1.2.2.1 p.1.2.2.2.2.1.toNat (([]:List UInt8),(([]:List UInt8),((0:Int),())))).1,(List.getD p.1.2.2.1 p.1.2.2.2.2.1.toNat (([]:List UInt8),(([]:List UInt8),((0:Int),())))).2.1,(List.getD p.1.2.2.1 p.1.2.2.2.2.1.toNat (([]:List UInt8),(([]:List UInt8),((0:Int),())))).2.2.1,()),()))) none) λp1=>(Option.bind (Option.bind (F86 ((p1.2.2.1.1,p1.1.1,()),())) λr2=>(some ((p1.1.1,(),(),p1.1.2.2.2.1,p1.1.2.2.2.2.1,p1.1.2.2.2.2.2.1,r2.1,()),p1.2))) λp3=>(cond p3.1.2.2.2.2.2.2.1 (Option.bind (cond (bytesOK ((List.length p3.2.1)+(List.length ([p3.2.2.1.2.1]:List Q5))) 16) (some ((p3.1.1,(),p3.1.2.2.2.1,p3.1.2.2.2.2.1,p3.1.2.2.2.2.2.1,()),((p3.2.1++([p3.2.2.1.2.1]:List Q5)),()))) none) λp4=>(some p4)) (some ((p3.1.1,(),p3.1.2.2.2.1,p3.1.2.2.2.2.1,p3.1.2.2.2.2.2.1,()),(p3.2.1,())))))) λp5=>(some (Sum.inl ((p5.1.1,(),p5.1.2.2.1,p5.1.2.2.2.1,(w64 (p5.1.2.2.2.2.1+(1:Int))),()),p5.2)))) (some (Sum.inr (((),()),p.2))))
def L49_0 (p:T49_0):Option R49_0:=loopOf B49_0 p
def H49_0:HT:=(.two .leaf (.two .leaf (.two (.join [(.normal,⟨[(1,.s),(5,(.own 0)),(8,(.sl Q7)),(9,(.i .i64)),(10,(.i .i64))],[(0,Q27)],1⟩)] (.one (.two (.join [(.normal,⟨[(1,.s),(5,(.own 0)),(7,(.ptr 1 0)),(8,(.sl Q7)),(9,(.i .i64)),(10,(.i .i64))],[(0,Q27),(1,Q61)],2⟩)] .leaf) (.two (.join [(.normal,⟨[(1,.s),(5,(.own 0)),(7,(.ptr 1 0)),(8,(.sl Q7)),(9,(.i .i64)),(10,(.i .i64)),(17,.b)],[(0,Q27),(1,Q61)],2⟩)] .leaf) (.two (.join [(.normal,⟨[(1,.s),(5,(.own 0)),(8,(.sl Q7)),(9,(.i .i64)),(10,(.i .i64))],[(0,Q27)],1⟩)] .leaf) .leaf))))) .leaf)))
def F49 (p:((List Q28)×Q5×Unit)×Unit):Option Q29:=(Option.bind (Option.bind (L49_0 ((p.1.2.1,(),p.1.1,(p.1.1.length:Int),(0:Int),()),(([]:List Q5),()))) λp6=>(some (((),()),p6.2))) λp7=>(some (p7.2.1,())))
def O49:Orc:=⟨(.cons (.sl Q7) Q20),[],(.sl .str),[],F49⟩
def H49:HT:=(.two .leaf (.two .leaf (.two (.join [(.normal,⟨[(5,(.own 0))],[(0,Q27)],1⟩)] (.two .leaf (.one (.loop S49_0 U49_0 L49_0 H49_0)))) .leaf)))
def X49:List (FuncId×Orc):=[(86,O86)]
theorem round49_0 (p):round Tryz.prog (CX X49 [] [] []) (MX X49 []) 0 25 (subc (bodyOf Tryz.f49) [true,true,false,true,false,false]) H49_0 S49_0 U49_0 p=B49_0 p:=by kernel_rfl
theorem run49 (p):evTop Tryz.prog (CX X49 [] [] []) (MX X49 []) Tryz.f49 H49 O49 p=F49 p:=by kernel_rfl
theorem ok49:O49.OK Tryz.prog 49:=okk run49 Tryz.func49 Tryz.call49 (ls:=[⟨subc (bodyOf Tryz.f49) [true,true,false,true,false,false],H49_0,S49_0,U49_0,L49_0⟩]) ⟨LoopRec.of rfl round49_0,trivial⟩ (hX:=⟨ok86,trivial⟩)
def F136 (p:((List Q28)×Q5×Unit)×Unit):Option ((Q5×Bool×Unit)×Unit):=(Option.bind (F49 ((p.1.1,p.1.2.1,()),())) λr1=>(cond (decide ((r1.1.length:Int)=(0:Int))) (some ((([]:List UInt8),false,()),())) (cond (decide ((0:Int)<(r1.1.length:Int))) (some (((List.getD r1.1 0 ([]:List UInt8)),true,()),())) none)))
def O136:Orc:=⟨(.cons (.sl Q7) Q20),[],(.tup (.cons .s (.cons .b .nil))),[],F136⟩
def X136:List (FuncId×Orc):=[(49,O49)]
theorem run136 (p):evTop Tryz.prog (CX X136 [] [] []) (MX X136 []) Tryz.f136 .leaf O136 p=F136 p:=by kernel_rfl
theorem ok136:O136.OK Tryz.prog 136:=ok0 run136 Tryz.func136 Tryz.call136 (hX:=⟨ok49,trivial⟩)
def S208_0:Shape:=⟨[(0,.s),(3,(.own 0)),(4,(.i .i64)),(7,(.ptr 1 0))],[(0,Q27),(1,.iter)],2⟩
def U208_0:Outs:=[((.exit 0),⟨[(0,.s),(3,(.own 0)),(4,(.i .i64))],[(0,Q27)],1⟩)]
abbrev T208_0:Type:=((Q5×Unit×Int×Unit×Unit)×(Q53×(List UInt8×Nat)×Unit))
abbrev R208_0:Type:=((Q5×Unit×Int×Unit)×Q29)
def B208_0 (p:T208_0):Option (T208_0⊕R208_0):=(cond (decide (p.2.2.1.2<List.length p.2.2.1.1)) (cond (decide ((0:Int)<((p.2.2.1.2:Nat):Int))) (Option.bind (cond (((decide ((0:Int)<=p.1.2.2.1))&&(decide (p.1.2.2.1<=((p.2.2.1.2:Nat):Int))))&&(decide (((p.2.2.1.2:Nat):Int)<=(p.1.1.length:Int)))) (cond (bytesOK ((List.length p.2.1)+(List.length ([(List.take ((Int.toNat ((p.2.2.1.2:Nat):Int))-p.1.2.2.1.toNat) (List.drop p.1.2.2.1.toNat p.1.1))]:List Q5))) 16) (some ((p.1.1,(),((p.2.2.1.2:Nat):Int),(),()),((p.2.1++([(List.take ((Int.toNat ((p.2.2.1.2:Nat):Int))-p.1.2.2.1.toNat) (List.drop p.1.2.2.1.toNat p.1.1))]:List Q5)),(p.2.2.1.1,(p.2.2.1.2+(Go.Utf8.decode ⟨List.toArray p.2.2.1.1⟩ p.2.2.1.2).2)),()))) none) none) λp1=>(Option.bind (some (p1.1,(p1.2.1,(p1.2.2.1.1,p1.2.2.1.2),()))) λp2=>(some (Sum.inl (p2.1,(p2.2.1,(p2.2.2.1.1,p2.2.2.1.2),())))))) (some (Sum.inl (p.1,(p.2.1,(p.2.2.1.1,(p.2.2.1.2+(Go.Utf8.decode ⟨List.toArray p.2.2.1.1⟩ p.2.2.1.2).2)),()))))) (some (Sum.inr ((p.1.1,(),p.1.2.2.1,()),(p.2.1,())))))
def L208_0 (p:T208_0):Option R208_0:=loopOf B208_0 p
def H208_0:HT:=(.two .leaf (.two .leaf (.one (.two .leaf (.two .leaf (.two (.two (.join [(.normal,⟨[(0,.s),(3,(.own 0)),(5,(.i .i64)),(7,(.ptr 1 0))],[(0,Q27),(1,.iter)],2⟩)] .leaf) (.join [(.normal,⟨[(0,.s),(3,(.own 0)),(4,(.i .i64)),(7,(.ptr 1 0))],[(0,Q27),(1,.iter)],2⟩)] .leaf)) .leaf))))))
def F208 (p:Q21×Unit):Option Q82:=(Option.bind (Option.bind (L208_0 ((p.1.1,(),(0:Int),(),()),(([]:List Q5),(p.1.1,0),()))) λp3=>(some p3)) λp4=>(Option.bind (cond (!(decide (p4.1.1=([]:List UInt8)))) (Option.bind (cond (((decide ((0:Int)<=p4.1.2.2.1))&&(decide (p4.1.2.2.1<=(p4.1.1.length:Int))))&&(decide ((p4.1.1.length:Int)<=(p4.1.1.length:Int)))) (cond (bytesOK ((List.length p4.2.1)+(List.length ([(List.take ((Int.toNat (p4.1.1.length:Int))-p4.1.2.2.1.toNat) (List.drop p4.1.2.2.1.toNat p4.1.1))]:List Q5))) 16) (some (((),()),((p4.2.1++([(List.take ((Int.toNat (p4.1.1.length:Int))-p4.1.2.2.1.toNat) (List.drop p4.1.2.2.1.toNat p4.1.1))]:List Q5)),()))) none) none) λp5=>(some (((),()),p5.2))) (some (((),()),p4.2))) λp6=>(some ((),p6.2))))
def O208:Orc:=⟨Q20,[],(.own 0),[(0,Q27)],F208⟩
def H208:HT:=(.two .leaf (.two .leaf (.two .leaf (.two (.join [(.normal,⟨[(0,.s),(3,(.own 0)),(4,(.i .i64))],[(0,Q27)],1⟩)] (.two .leaf (.one (.loop S208_0 U208_0 L208_0 H208_0)))) (.two (.join [(.normal,⟨[(3,(.own 0))],[(0,Q27)],1⟩)] (.two .leaf (.two (.join [(.normal,⟨[(3,(.own 0))],[(0,Q27)],1⟩)] .leaf) .leaf))) .leaf)))))
theorem round208_0 (p):round Tryz.prog (CX [] [] [] []) (MX [] []) 0 30 (subc (bodyOf Tryz.f208) [true,true,true,false,true,false,false]) H208_0 S208_0 U208_0 p=B208_0 p:=by kernel_rfl
theorem run208 (p):evTop Tryz.prog (CX [] [] [] []) (MX [] []) Tryz.f208 H208 O208 p=F208 p:=by kernel_rfl
theorem ok208:O208.OK Tryz.prog 208:=okk run208 Tryz.func208 Tryz.call208 (ls:=[⟨subc (bodyOf Tryz.f208) [true,true,true,false,true,false,false],H208_0,S208_0,U208_0,L208_0⟩]) ⟨LoopRec.of rfl round208_0,trivial⟩
def F176 (p:Q21×Unit):Option (Unit×((Unit×Int×Int×Int×Int×Int×Int×Int×Int×Unit)×Q53×Unit)):=(Option.bind (F208 ((p.1.1,()),())) λr1=>(some ((),(((),(0:Int),(0:Int),(0:Int),(0:Int),(0:Int),(0:Int),(0:Int),(-1:Int),()),r1.2.1,()))))
def O176:Orc:=⟨Q20,[],(.ptr 0 0),[(0,(.vars (.cons (.own 1) (.cons (.i .i64) (.cons (.i .i64) (.cons (.i .i64) (.cons (.i .i64) (.cons (.i .i64) (.cons (.i .i64) Q6))))))))),(1,Q27)],F176⟩
def X176:List (FuncId×Orc):=[(208,O208)]
theorem run176 (p):evTop Tryz.prog (CX X176 [] [] []) (MX X176 []) Tryz.f176 .leaf O176 p=F176 p:=by kernel_rfl
theorem ok176:O176.OK Tryz.prog 176:=ok0 run176 Tryz.func176 Tryz.call176 (hX:=⟨ok208,trivial⟩)
def F178 (p:Q23×Q56):Option (Q5×Q56):=(cond (decide (p.2.1.2.1<(p.2.1.1.length:Int))) (cond ((decide ((0:Int)<=p.2.1.2.1))&&(decide (p.2.1.2.1<(p.2.1.1.length:Int)))) (some ((List.getD p.2.1.1 p.2.1.2.1.toNat ([]:List UInt8)),(p.2.1,()))) none) (some (([]:List UInt8),(p.2.1,()))))
def O178:Orc:=⟨Q19,[(0,Q3)],.s,[(0,Q3)],F178⟩
theorem run178 (p):evTop Tryz.prog (CX [] [] [] []) (MX [] []) Tryz.f178 .leaf O178 p=F178 p:=by kernel_rfl
theorem ok178:O178.OK Tryz.prog 178:=ok0 run178 Tryz.func178 Tryz.call178
def F177 (p:Q21×Unit):Option Q31:=(cond ((decide ((0:Int)<(p.1.1.length:Int)))||(!(decide ((p.1.1.length:Int)=(1:Int))))) (cond ((decide ((0:Int)<(p.1.1.length:Int)))||(!((decide ((p.1.1.length:Int)=(1:Int)))&&(decide ((UInt8.toNat (48:UInt8))<=(UInt8.toNat (List.getD p.1.1 0 0))))))) (some ((((decide ((p.1.1.length:Int)=(1:Int)))&&(decide ((UInt8.toNat (48:UInt8))<=(UInt8.toNat (List.getD p.1.1 0 0)))))&&(decide ((UInt8.toNat (List.getD p.1.1 0 0))<=(UInt8.toNat (57:UInt8))))),())) none) none)
def O177:Orc:=⟨Q20,[],.b,[],F177⟩
theorem run177 (p):evTop Tryz.prog (CX [] [] [] []) (MX [] []) Tryz.f177 .leaf O177 p=F177 p:=by kernel_rfl
theorem ok177:O177.OK Tryz.prog 177:=ok0 run177 Tryz.func177 Tryz.call177
def F180 (_p:Unit×Unit):Option Q82:=(some ((),(([([77,111,110]:List UInt8),([84,117,101]:List UInt8),([87,101,100]:List UInt8),([84,104,117]:List UInt8),([70,114,105]:List UInt8),([83,97,116]:List UInt8),([83,117,110]:List UInt8)]:List Q5),())))
def O180:Orc:=⟨.nil,[],(.own 0),[(0,Q27)],F180⟩
theorem run180 (p):evTop Tryz.prog (CX [] [] [] []) (MX [] []) Tryz.f180 .leaf O180 p=F180 p:=by kernel_rfl
theorem ok180:O180.OK Tryz.prog 180:=ok0 run180 Tryz.func180 Tryz.call180
def S210_0:Shape:=⟨[(0,.s),(1,(.ptr 0 0)),(2,(.ptr 1 0)),(3,(.ptr 2 0)),(8,(.sl .str)),(9,(.i .i64)),(10,(.i .i64))],[(0,Q38),(1,Q33),(2,Q59)],3⟩
def U210_0:Outs:=[((.exit 0),⟨[(1,(.ptr 0 0)),(2,(.ptr 1 0)),(3,(.ptr 2 0))],[(0,Q38),(1,Q33),(2,Q59)],3⟩),(.ret,⟨[(1,(.ptr 0 0)),(2,(.ptr 1 0)),(3,(.ptr 2 0)),(5,(.kb true))],[(0,Q38),(1,Q33),(2,Q59)],3⟩)]
abbrev T210_0:Type:=((Q5×Unit×Unit×Unit×Q53×Int×Int×Unit)×Q78)
abbrev R210_0:Type:=(((Unit×Unit×Unit×Unit)×Q78)⊕((Unit×Unit×Unit×Unit×Unit)×Q78))
def B210_0 (p:T210_0):Option (T210_0⊕R210_0):=(cond (decide (p.1.2.2.2.2.2.2.1<p.1.2.2.2.2.2.1)) (Option.bind (cond ((decide ((0:Int)<=p.1.2.2.2.2.2.2.1))&&(decide (p.1.2.2.2.2.2.2.1<(p.1.2.2.2.2.1.length:Int)))) (some ((p.1.1,(),(),(),(List.getD p.1.2.2.2.2.1 p.1.2.2.2.2.2.2.1.toNat ([]:List UInt8)),p.1.2.2.2.2.1,p.1.2.2.2.2.2.1,p.1.2.2.2.2.2.2.1,()),p.2)) none) λp1=>(cond (((decide ((0:Int)<=p1.2.2.1.1))&&(decide (p1.2.2.1.1<=(p1.1.2.2.2.2.1.length:Int))))||(!(decide (p1.2.2.1.1<(p1.1.2.2.2.2.1.length:Int))))) (cond (decide (p1.2.2.1.1<(p1.1.2.2.2.2.1.length:Int))) (Option.bind (F86 (((List.take p1.2.2.1.1.toNat p1.1.2.2.2.2.1),p1.2.2.2.1.1,()),())) λr2=>(cond ((((decide ((0:Int)<=p1.2.2.1.1))&&(decide (p1.2.2.1.1<=(w64 (p1.2.2.1.1+(1:Int))))))&&(decide ((w64 (p1.2.2.1.1+(1:Int)))<=(p1.1.2.2.2.2.1.length:Int))))||(!r2.1)) (cond r2.1 (Option.bind (F86 (((List.take ((Int.toNat (w64 (p1.2.2.1.1+(1:Int))))-p1.2.2.1.1.toNat) (List.drop p1.2.2.1.1.toNat p1.1.2.2.2.2.1)),p1.1.1,()),())) λr3=>(cond r3.1 (some (Sum.inr (Sum.inr (((),(),(),(),()),p1.2)))) (some (Sum.inl ((p1.1.1,(),(),(),p1.1.2.2.2.2.2.1,p1.1.2.2.2.2.2.2.1,(w64 (p1.1.2.2.2.2.2.2.2.1+(1:Int))),()),p1.2))))) (some (Sum.inl ((p1.1.1,(),(),(),p1.1.2.2.2.2.2.1,p1.1.2.2.2.2.2.2.1,(w64 (p1.1.2.2.2.2.2.2.2.1+(1:Int))),()),p1.2)))) none)) (some (Sum.inl ((p1.1.1,(),(),(),p1.1.2.2.2.2.2.1,p1.1.2.2.2.2.2.2.1,(w64 (p1.1.2.2.2.2.2.2.2.1+(1:Int))),()),p1.2)))) none)) (some (Sum.inr (Sum.inl (((),(),(),()),p.2)))))
def L210_0 (p:T210_0):Option R210_0:=loopOf B210_0 p
def H210_0:HT:=(.two .leaf (.two .leaf (.two (.one (.two (.join [(.normal,⟨[(0,.s),(1,(.ptr 0 0)),(2,(.ptr 1 0)),(3,(.ptr 2 0)),(7,.s),(8,(.sl .str)),(9,(.i .i64)),(10,(.i .i64))],[(0,Q38),(1,Q33),(2,Q59)],3⟩)] .leaf) .leaf)) .leaf)))
def F210 (p:(Q5×Unit×Unit×Unit×Unit)×Q78):Option (Bool×Q78):=(Option.bind (Option.bind (L210_0 ((p.1.1,(),(),(),p.2.1.1,(p.2.1.1.length:Int),(0:Int),()),(p.2.1,p.2.2.1,p.2.2.2.1,()))) λp4=>(match p4 with | Sum.inl p5=>(some (Sum.inl (((),(),(),()),p5.2))) | Sum.inr q5=>(some (Sum.inr (((),(),(),(),()),q5.2))))) λp6=>(match p6 with | Sum.inl p7=>(some (false,p7.2)) | Sum.inr q7=>(some (true,q7.2))))
def O210:Orc:=⟨(.cons .s (.cons (.ptr 0 0) (.cons (.ptr 1 0) (.cons (.ptr 2 0) .nil)))),[(0,Q38),(1,Q33),(2,Q59)],.b,[(0,Q38),(1,Q33),(2,Q59)],F210⟩
def H210:HT:=(.two .leaf (.two (.join [(.normal,⟨[(1,(.ptr 0 0)),(2,(.ptr 1 0)),(3,(.ptr 2 0))],[(0,Q38),(1,Q33),(2,Q59)],3⟩),(.ret,⟨[(1,(.ptr 0 0)),(2,(.ptr 1 0)),(3,(.ptr 2 0)),(5,(.kb true))],[(0,Q38),(1,Q33),(2,Q59)],3⟩)] (.two .leaf (.one (.loop S210_0 U210_0 L210_0 H210_0)))) .leaf))
def X210:List (FuncId×Orc):=[(86,O86)]
theorem round210_0 (p):round Tryz.prog (CX X210 [] [] []) (MX X210 []) 3 35 (subc (bodyOf Tryz.f210) [true,false,true,false,false]) H210_0 S210_0 U210_0 p=B210_0 p:=by kernel_rfl
theorem run210 (p):evTop Tryz.prog (CX X210 [] [] []) (MX X210 []) Tryz.f210 H210 O210 p=F210 p:=by kernel_rfl
theorem ok210:O210.OK Tryz.prog 210:=okk run210 Tryz.func210 Tryz.call210 (ls:=[⟨subc (bodyOf Tryz.f210) [true,false,true,false,false],H210_0,S210_0,U210_0,L210_0⟩]) ⟨LoopRec.of rfl round210_0,trivial⟩ (hX:=⟨ok86,trivial⟩)
def F232 (p:Q23×Q56):Option (Unit×Q56):=(cond (decide (p.2.1.2.2.1=(0:Int))) (cond (decide (p.2.1.2.1=(p.2.1.1.length:Int))) (some ((),((p.2.1.1,p.2.1.2.1,(3:Int),p.2.1.2.2.2.1,p.2.1.2.2.2.2.1,p.2.1.2.2.2.2.2.1,p.2.1.2.2.2.2.2.2.1,p.2.1.2.2.2.2.2.2.2.1,p.2.1.2.2.2.2.2.2.2.2.1,()),()))) (some ((),((p.2.1.1,p.2.1.2.1,(4:Int),p.2.1.2.2.2.1,p.2.1.2.2.2.2.1,p.2.1.2.2.2.2.2.1,p.2.1.2.2.2.2.2.2.1,p.2.1.2.2.2.2.2.2.2.1,p.2.1.2.2.2.2.2.2.2.2.1,()),())))) (some ((),(p.2.1,()))))
def O232:Orc:=⟨Q19,[(0,Q3)],(.tup .nil),[(0,Q3)],F232⟩
theorem run232 (p):evTop Tryz.prog (CX [] [] [] []) (MX [] []) Tryz.f232 .leaf O232 p=F232 p:=by kernel_rfl
theorem ok232:O232.OK Tryz.prog 232:=ok0 run232 Tryz.func232 Tryz.call232
def S179_1:Shape:=⟨[(0,(.ptr 0 0)),(3,(.ptr 1 0)),(5,(.ptr 2 0)),(6,(.ptr 3 0)),(12,(.sl .str)),(13,(.i .i64)),(14,(.i .i64))],[(0,Q3),(1,Q38),(2,Q59),(3,Q33)],4⟩
def U179_1:Outs:=[((.exit 2),⟨[(0,(.ptr 0 0)),(3,(.ptr 1 0)),(5,(.ptr 2 0)),(6,(.ptr 3 0))],[(0,Q3),(1,Q38),(2,Q59),(3,Q33)],4⟩),(.ret,⟨[(0,(.ptr 0 0)),(4,(.i .i64))],[(0,Q3)],1⟩)]
abbrev T179_1:Type:=((Unit×Unit×Unit×Unit×Q53×Int×Int×Unit)×(Q13×Q29×Q21×Q11×Unit))
abbrev R179_1:Type:=(((Unit×Unit×Unit×Unit×Unit)×(Q13×Q29×Q21×Q11×Unit))⊕(Q39×Q56))
def B179_1 (p:T179_1):Option (T179_1⊕R179_1):=(cond (decide (p.1.2.2.2.2.2.2.1<p.1.2.2.2.2.2.1)) (Option.bind (cond ((decide ((0:Int)<=p.1.2.2.2.2.2.2.1))&&(decide (p.1.2.2.2.2.2.2.1<(p.1.2.2.2.2.1.length:Int)))) (some (((),(),(),(),p.1.2.2.2.2.2.2.1,(List.getD p.1.2.2.2.2.1 p.1.2.2.2.2.2.2.1.toNat ([]:List UInt8)),p.1.2.2.2.2.1,p.1.2.2.2.2.2.1,p.1.2.2.2.2.2.2.1,()),p.2)) none) λp1=>(cond (decide ((p1.1.2.2.2.2.2.1.length:Int)=p1.2.2.2.2.1.1)) (Option.bind (F86 ((p1.1.2.2.2.2.2.1,p1.2.2.2.1.1,()),())) λr2=>(cond r2.1 (some (Sum.inr (Sum.inr (((),p1.1.2.2.2.2.1,()),(p1.2.1,()))))) (some (Sum.inl (((),(),(),(),p1.1.2.2.2.2.2.2.1,p1.1.2.2.2.2.2.2.2.1,(w64 (p1.1.2.2.2.2.2.2.2.2.1+(1:Int))),()),p1.2))))) (some (Sum.inl (((),(),(),(),p1.1.2.2.2.2.2.2.1,p1.1.2.2.2.2.2.2.2.1,(w64 (p1.1.2.2.2.2.2.2.2.2.1+(1:Int))),()),p1.2))))) (some (Sum.inr (Sum.inl (((),(),(),(),()),p.2)))))
def L179_1 (p:T179_1):Option R179_1:=loopOf B179_1 p
def H179_1:HT:=(.two .leaf (.two .leaf (.two (.one (.two (.join [(.normal,⟨[(0,(.ptr 0 0)),(3,(.ptr 1 0)),(5,(.ptr 2 0)),(6,(.ptr 3 0)),(7,(.i .i64)),(8,.s),(12,(.sl .str)),(13,(.i .i64)),(14,(.i .i64))],[(0,Q3),(1,Q38),(2,Q59),(3,Q33)],4⟩)] .leaf) .leaf)) .leaf)))
def S179_0:Shape:=⟨[(0,(.ptr 0 0)),(3,(.ptr 1 0)),(5,(.ptr 2 0)),(6,(.ptr 3 0))],[(0,Q3),(1,Q38),(2,Q59),(3,Q33)],4⟩
def U179_0:Outs:=[(.ret,⟨[(0,(.ptr 0 0)),(4,(.i .i64))],[(0,Q3)],1⟩)]
abbrev T179_0:Type:=((Unit×Unit×Unit×Unit×Unit)×(Q13×Q29×Q21×Q11×Unit))
abbrev R179_0:Type:=(Q39×Q56)
def B179_0 (p:T179_0):Option (T179_0⊕R179_0):=(Option.bind (Option.bind (Option.bind (L179_1 (((),(),(),(),p.2.2.1.1,(p.2.2.1.1.length:Int),(0:Int),()),p.2)) λp3=>(match p3 with | Sum.inl p4=>(some (Sum.inl (((),(),(),(),()),p4.2))) | Sum.inr q4=>(some (Sum.inr q4)))) λp5=>(match p5 with | Sum.inl p6=>(Option.bind (F178 (((),()),(p6.2.1,()))) λr7=>(cond (!((!(decide (r7.2.1.2.2.1=(0:Int))))||(decide (r7.1=([]:List UInt8))))) (Option.bind (F210 ((r7.1,(),(),(),()),(p6.2.2.1,p6.2.2.2.2.1,p6.2.2.2.1,()))) λr8=>(cond (!r8.1) (Option.bind (F232 (((),()),(r7.2.1,()))) λr9=>(some (Sum.inr (((),(0:Int),()),(r9.2.1,()))))) (cond (decide (r7.1=([]:List UInt8))) (some (Sum.inr (((),(0:Int),()),((r7.2.1.1,(w64 (r7.2.1.2.1+(1:Int))),r7.2.1.2.2.1,r7.2.1.2.2.2.1,r7.2.1.2.2.2.2.1,r7.2.1.2.2.2.2.2.1,r7.2.1.2.2.2.2.2.2.1,r7.2.1.2.2.2.2.2.2.2.1,r7.2.1.2.2.2.2.2.2.2.2.1,()),())))) (cond (fits (List.length r8.2.2.2.1.1+List.length r7.1)) (some (Sum.inl (((),(),(),(),()),((r7.2.1.1,(w64 (r7.2.1.2.1+(1:Int))),r7.2.1.2.2.1,r7.2.1.2.2.2.1,r7.2.1.2.2.2.2.1,r7.2.1.2.2.2.2.2.1,r7.2.1.2.2.2.2.2.2.1,r7.2.1.2.2.2.2.2.2.2.1,r7.2.1.2.2.2.2.2.2.2.2.1,()),r8.2.1,((r8.2.2.2.1.1++r7.1),()),r8.2.2.1,())))) none)))) (Option.bind (F232 (((),()),(r7.2.1,()))) λr10=>(some (Sum.inr (((),(0:Int),()),(r10.2.1,()))))))) | Sum.inr q6=>(some (Sum.inr q6)))) λp11=>(match p11 with | Sum.inl p12=>(some (Sum.inl (((),(),(),(),()),(p12.2.1,p12.2.2.1,p12.2.2.2.1,((w64 (p12.2.2.2.2.1.1+(1:Int))),()),())))) | Sum.inr q12=>(some (Sum.inr q12))))
def L179_0 (p:T179_0):Option R179_0:=loopOf B179_0 p
def H179_0:HT:=(.two (.join [(.normal,⟨[(0,(.ptr 0 0)),(3,(.ptr 1 0)),(5,(.ptr 2 0)),(6,(.ptr 3 0))],[(0,Q3),(1,Q38),(2,Q59),(3,Q33)],4⟩),(.ret,⟨[(0,(.ptr 0 0)),(4,(.i .i64))],[(0,Q3)],1⟩)] (.one (.two (.join [(.normal,⟨[(0,(.ptr 0 0)),(3,(.ptr 1 0)),(5,(.ptr 2 0)),(6,(.ptr 3 0))],[(0,Q3),(1,Q38),(2,Q59),(3,Q33)],4⟩),(.ret,⟨[(0,(.ptr 0 0)),(4,(.i .i64))],[(0,Q3)],1⟩)] (.two .leaf (.one (.loop S179_1 U179_1 L179_1 H179_1)))) .leaf))) .leaf)
def F179 (p:(Unit×Q53×Unit)×Q56):Option (Int×Q56):=(Option.bind (L179_0 (((),(),(),(),()),(p.2.1,(p.1.2.1,()),(([]:List UInt8),()),((0:Int),()),()))) λp13=>(some (p13.1.2.1,p13.2)))
def O179:Orc:=⟨(.cons (.ptr 0 0) (.cons (.sl .str) .nil)),[(0,Q3)],(.i .i64),[(0,Q3)],F179⟩
def H179:HT:=(.two .leaf (.two .leaf (.two .leaf (.one (.loop S179_0 U179_0 L179_0 H179_0)))))
def X179:List (FuncId×Orc):=[(86,O86),(178,O178),(210,O210),(232,O232)]
def I179:List FuncId:=[209]
theorem round179_1 (p):round Tryz.prog (CX X179 [] [] I179) (MX X179 []) 1 39 (subc (bodyOf Tryz.f179) [true,true,true,false,false,false,false,false,true,false,false]) H179_1 S179_1 U179_1 p=B179_1 p:=by kernel_rfl
theorem round179_0 (p):round Tryz.prog (CX X179 [] [] I179) (MX X179 []) 1 39 (subc (bodyOf Tryz.f179) [true,true,true,false,false]) H179_0 S179_0 U179_0 p=B179_0 p:=by kernel_rfl
theorem run179 (p):evTop Tryz.prog (CX X179 [] [] I179) (MX X179 []) Tryz.f179 H179 O179 p=F179 p:=by kernel_rfl
theorem ok179:O179.OK Tryz.prog 179:=okk run179 Tryz.func179 Tryz.call179 (ls:=[⟨subc (bodyOf Tryz.f179) [true,true,true,false,false],H179_0,S179_0,U179_0,L179_0⟩,⟨subc (bodyOf Tryz.f179) [true,true,true,false,false,false,false,false,true,false,false],H179_1,S179_1,U179_1,L179_1⟩]) ⟨LoopRec.of rfl round179_0,⟨LoopRec.of rfl round179_1,trivial⟩⟩ (hX:=⟨ok86,⟨ok178,⟨ok210,⟨ok232,trivial⟩⟩⟩⟩) (hI:=⟨Tryz.call209,trivial⟩)
def F181 (p:(Unit×Q5×Unit)×Q56):Option (Unit×Q56):=(Option.bind (F178 (((),()),(p.2.1,()))) λr1=>(cond (!((!(decide (r1.2.1.2.2.1=(0:Int))))||(decide (r1.1=([]:List UInt8))))) (cond (!(decide (r1.1=p.1.2.1))) (Option.bind (F232 (((),()),(r1.2.1,()))) λr2=>(some ((),(r2.2.1,())))) (some ((),((r1.2.1.1,(w64 (r1.2.1.2.1+(1:Int))),r1.2.1.2.2.1,r1.2.1.2.2.2.1,r1.2.1.2.2.2.2.1,r1.2.1.2.2.2.2.2.1,r1.2.1.2.2.2.2.2.2.1,r1.2.1.2.2.2.2.2.2.2.1,r1.2.1.2.2.2.2.2.2.2.2.1,()),())))) (Option.bind (F232 (((),()),(r1.2.1,()))) λr3=>(some ((),(r3.2.1,()))))))
def O181:Orc:=⟨(.cons (.ptr 0 0) Q20),[(0,Q3)],(.tup .nil),[(0,Q3)],F181⟩
def X181:List (FuncId×Orc):=[(178,O178),(232,O232)]
def I181:List FuncId:=[209,211]
theorem run181 (p):evTop Tryz.prog (CX X181 [] [] I181) (MX X181 []) Tryz.f181 .leaf O181 p=F181 p:=by kernel_rfl
theorem ok181:O181.OK Tryz.prog 181:=ok0 run181 Tryz.func181 Tryz.call181 (hX:=⟨ok178,⟨ok232,trivial⟩⟩) (hI:=⟨Tryz.call209,⟨Tryz.call211,trivial⟩⟩)
def F212 (p:(Q5×Unit×Unit×Unit×Unit)×(Q11×Q11×Q11×Unit)):Option (Bool×(Q11×Q11×Q11×Unit)):=(Option.bind (F177 ((p.1.1,()),())) λr1=>(cond ((decide ((0:Int)<(p.1.1.length:Int)))||(!r1.1)) (some ((r1.1&&(decide ((w64 ((w64 ((w64 (p.2.1.1*(10:Int)))+((UInt8.toNat ((List.getD p.1.1 0 0)-(48:UInt8)):Nat):Int)))*p.2.2.1.1))<p.2.2.2.1.1))),(p.2.1,p.2.2.1,p.2.2.2.1,()))) none))
def O212:Orc:=⟨(.cons .s (.cons (.ptr 0 0) (.cons (.ptr 1 0) (.cons (.ptr 2 0) .nil)))),[(0,Q33),(1,Q33),(2,Q33)],.b,[(0,Q33),(1,Q33),(2,Q33)],F212⟩
def X212:List (FuncId×Orc):=[(177,O177)]
theorem run212 (p):evTop Tryz.prog (CX X212 [] [] []) (MX X212 []) Tryz.f212 .leaf O212 p=F212 p:=by kernel_rfl
theorem ok212:O212.OK Tryz.prog 212:=ok0 run212 Tryz.func212 Tryz.call212 (hX:=⟨ok177,trivial⟩)
def S183_1:Shape:=⟨[(0,(.ptr 0 0)),(1,(.i .i64)),(5,(.ptr 1 0)),(7,(.ptr 2 0)),(9,(.ptr 3 0)),(11,(.i .i64)),(12,(.i .i64)),(18,(.i .i64)),(19,(.i .i64))],[(0,Q3),(1,Q33),(2,Q33),(3,Q33)],4⟩
def U183_1:Outs:=[((.exit 2),⟨[(0,(.ptr 0 0)),(1,(.i .i64)),(5,(.ptr 1 0)),(7,(.ptr 2 0)),(9,(.ptr 3 0)),(11,(.i .i64)),(12,(.i .i64))],[(0,Q3),(1,Q33),(2,Q33),(3,Q33)],4⟩)]
abbrev T183_1:Type:=((Unit×Int×Unit×Unit×Unit×Int×Int×Int×Int×Unit)×(Q13×Q11×Q11×Q11×Unit))
abbrev R183_1:Type:=((Unit×Int×Unit×Unit×Unit×Int×Int×Unit)×(Q13×Q11×Q11×Q11×Unit))
def B183_1 (p:T183_1):Option (T183_1⊕R183_1):=(cond (decide (p.1.2.2.2.2.2.2.2.2.1<p.1.2.2.2.2.2.2.2.1)) (some (Sum.inl (((),p.1.2.1,(),(),(),p.1.2.2.2.2.2.1,p.1.2.2.2.2.2.2.1,p.1.2.2.2.2.2.2.2.1,(w64 (p.1.2.2.2.2.2.2.2.2.1+(1:Int))),()),(p.2.1,p.2.2.1,p.2.2.2.1,((w64 (p.2.2.2.2.1.1*(10:Int))),()),())))) (some (Sum.inr (((),p.1.2.1,(),(),(),p.1.2.2.2.2.2.1,p.1.2.2.2.2.2.2.1,()),p.2))))
def L183_1 (p:T183_1):Option R183_1:=loopOf B183_1 p
def S183_0:Shape:=⟨[(0,(.ptr 0 0)),(1,(.i .i64)),(5,(.ptr 1 0)),(7,(.ptr 2 0)),(11,(.i .i64)),(12,(.i .i64))],[(0,Q3),(1,Q33),(2,Q33)],3⟩
def U183_0:Outs:=[((.exit 0),⟨[(0,(.ptr 0 0)),(7,(.ptr 1 0))],[(0,Q3),(1,Q33)],2⟩)]
abbrev T183_0:Type:=((Unit×Int×Unit×Unit×Int×Int×Unit)×(Q13×Q11×Q11×Unit))
abbrev R183_0:Type:=((Unit×Unit×Unit)×(Q13×Q11×Unit))
def B183_0 (p:T183_0):Option (T183_0⊕R183_0):=(cond (decide (p.1.2.2.2.2.2.1<p.1.2.2.2.2.1)) (Option.bind (Option.bind (Option.bind (L183_1 (((),p.1.2.1,(),(),(),p.1.2.2.2.2.1,p.1.2.2.2.2.2.1,(w64 ((w64 (p.1.2.1-(1:Int)))-p.1.2.2.2.2.2.1)),(0:Int),()),(p.2.1,p.2.2.1,p.2.2.2.1,((1:Int),()),()))) λp1=>(some p1)) λp2=>(Option.bind (F178 (((),()),(p2.2.1,()))) λr3=>(cond (!((!(decide (r3.2.1.2.2.1=(0:Int))))||(decide (r3.1=([]:List UInt8))))) (Option.bind (F212 ((r3.1,(),(),(),()),(p2.2.2.2.1,p2.2.2.2.2.1,p2.2.2.1,()))) λr4=>(cond (!r4.1) (Option.bind (F232 (((),()),(r3.2.1,()))) λr5=>(some (((),p2.1.2.1,(),(),p2.1.2.2.2.2.2.1,p2.1.2.2.2.2.2.2.1,()),(r5.2.1,r4.2.2.2.1,r4.2.1,())))) (cond (!(decide (r3.1=([]:List UInt8)))) (Option.bind (cond (decide ((0:Int)<(r3.1.length:Int))) (some (((),p2.1.2.1,(),(),p2.1.2.2.2.2.2.1,p2.1.2.2.2.2.2.2.1,()),((r3.2.1.1,(w64 (r3.2.1.2.1+(1:Int))),r3.2.1.2.2.1,r3.2.1.2.2.2.1,r3.2.1.2.2.2.2.1,r3.2.1.2.2.2.2.2.1,r3.2.1.2.2.2.2.2.2.1,r3.2.1.2.2.2.2.2.2.2.1,r3.2.1.2.2.2.2.2.2.2.2.1,()),r4.2.2.2.1,((w64 ((w64 (r4.2.1.1*(10:Int)))+((UInt8.toNat ((List.getD r3.1 0 0)-(48:UInt8)):Nat):Int))),()),()))) none) λp6=>(some p6)) (some (((),p2.1.2.1,(),(),p2.1.2.2.2.2.2.1,p2.1.2.2.2.2.2.2.1,()),((r3.2.1.1,(w64 (r3.2.1.2.1+(1:Int))),r3.2.1.2.2.1,r3.2.1.2.2.2.1,r3.2.1.2.2.2.2.1,r3.2.1.2.2.2.2.2.1,r3.2.1.2.2.2.2.2.2.1,r3.2.1.2.2.2.2.2.2.2.1,r3.2.1.2.2.2.2.2.2.2.2.1,()),r4.2.2.2.1,r4.2.1,())))))) (Option.bind (F232 (((),()),(r3.2.1,()))) λr7=>(some (((),p2.1.2.1,(),(),p2.1.2.2.2.2.2.1,p2.1.2.2.2.2.2.2.1,()),(r7.2.1,p2.2.2.1,p2.2.2.2.1,()))))))) λp8=>(some (Sum.inl (((),p8.1.2.1,(),(),p8.1.2.2.2.2.1,(w64 (p8.1.2.2.2.2.2.1+(1:Int))),()),p8.2)))) (some (Sum.inr (((),(),()),(p.2.1,p.2.2.2.1,())))))
def L183_0 (p:T183_0):Option R183_0:=loopOf B183_0 p
def H183_0:HT:=(.two .leaf (.two .leaf (.two (.join [(.normal,⟨[(0,(.ptr 0 0)),(1,(.i .i64)),(5,(.ptr 1 0)),(7,(.ptr 2 0)),(11,(.i .i64)),(12,(.i .i64))],[(0,Q3),(1,Q33),(2,Q33)],3⟩)] (.one (.two .leaf (.two .leaf (.two (.join [(.normal,⟨[(0,(.ptr 0 0)),(1,(.i .i64)),(5,(.ptr 1 0)),(7,(.ptr 2 0)),(9,(.ptr 3 0)),(11,(.i .i64)),(12,(.i .i64))],[(0,Q3),(1,Q33),(2,Q33),(3,Q33)],4⟩)] (.two .leaf (.one (.loop S183_1 U183_1 L183_1 .leaf)))) (.two .leaf (.two .leaf (.two (.join [(.normal,⟨[(0,(.ptr 0 0)),(1,(.i .i64)),(5,(.ptr 1 0)),(7,(.ptr 2 0)),(11,(.i .i64)),(12,(.i .i64))],[(0,Q3),(1,Q33),(2,Q33)],3⟩)] .leaf) .leaf)))))))) .leaf)))
def F183 (p:Q50×Q56):Option (Int×Q56):=(Option.bind (Option.bind (L183_0 (((),p.1.2.1,(),(),p.1.2.1,(0:Int),()),(p.2.1,(p.1.2.2.1,()),((0:Int),()),()))) λp9=>(some (((),(),()),p9.2))) λp10=>(some (p10.2.2.1.1,(p10.2.1,()))))
def O183:Orc:=⟨(.cons (.ptr 0 0) Q6),[(0,Q3)],(.i .i64),[(0,Q3)],F183⟩
def H183:HT:=(.two .leaf (.two .leaf (.two (.join [(.normal,⟨[(0,(.ptr 0 0)),(7,(.ptr 1 0))],[(0,Q3),(1,Q33)],2⟩)] (.two .leaf (.one (.loop S183_0 U183_0 L183_0 H183_0)))) .leaf)))
def X183:List (FuncId×Orc):=[(178,O178),(212,O212),(232,O232)]
def I183:List FuncId:=[209]
theorem round183_1 (p):round Tryz.prog (CX X183 [] [] I183) (MX X183 []) 1 38 (subc (bodyOf Tryz.f183) [true,true,false,true,false,false,true,true,false,false,true,true,false,true,false,false]) .leaf S183_1 U183_1 p=B183_1 p:=by kernel_rfl
theorem round183_0 (p):round Tryz.prog (CX X183 [] [] I183) (MX X183 []) 1 38 (subc (bodyOf Tryz.f183) [true,true,false,true,false,false]) H183_0 S183_0 U183_0 p=B183_0 p:=by kernel_rfl
theorem run183 (p):evTop Tryz.prog (CX X183 [] [] I183) (MX X183 []) Tryz.f183 H183 O183 p=F183 p:=by kernel_rfl
theorem ok183:O183.OK Tryz.prog 183:=okk run183 Tryz.func183 Tryz.call183 (ls:=[⟨subc (bodyOf Tryz.f183) [true,true,false,true,false,false],H183_0,S183_0,U183_0,L183_0⟩,⟨subc (bodyOf Tryz.f183) [true,true,false,true,false,false,true,true,false,false,true,true,false,true,false,false],.leaf,S183_1,U183_1,L183_1⟩]) ⟨LoopRec.of rfl round183_0,⟨LoopRec.of rfl round183_1,trivial⟩⟩ (hX:=⟨ok178,⟨ok212,⟨ok232,trivial⟩⟩⟩) (hI:=⟨Tryz.call209,trivial⟩)
def F182 (p:Q23×Q56):Option (Int×Q56):=(Option.bind (F183 (((),(1:Int),(10:Int),()),(p.2.1,()))) λr1=>(Option.bind (Option.bind (F178 (((),()),(r1.2.1,()))) λr2=>(Option.bind (F177 ((r2.1,()),())) λr3=>(cond r3.1 (Option.bind (F183 (((),(1:Int),(10:Int),()),(r2.2.1,()))) λr4=>(some (((),(w64 ((w64 (r1.1*(10:Int)))+r4.1)),()),(r4.2.1,())))) (some (((),r1.1,()),(r2.2.1,())))))) λp5=>(some (p5.1.2.1,p5.2))))
def O182:Orc:=⟨Q19,[(0,Q3)],(.i .i64),[(0,Q3)],F182⟩
def H182:HT:=(.two .leaf (.two .leaf (.two (.join [(.normal,⟨[(0,(.ptr 0 0)),(3,(.i .i64))],[(0,Q3)],1⟩)] .leaf) .leaf)))
def X182:List (FuncId×Orc):=[(177,O177),(178,O178),(183,O183)]
theorem run182 (p):evTop Tryz.prog (CX X182 [] [] []) (MX X182 []) Tryz.f182 H182 O182 p=F182 p:=by kernel_rfl
theorem ok182:O182.OK Tryz.prog 182:=ok0 run182 Tryz.func182 Tryz.call182 (hX:=⟨ok177,⟨ok178,⟨ok183,trivial⟩⟩⟩)
def F157 (_p:Unit×Unit):Option Q82:=(some ((),(([([74,97,110]:List UInt8),([70,101,98]:List UInt8),([77,97,114]:List UInt8),([65,112,114]:List UInt8),([77,97,121]:List UInt8),([74,117,110]:List UInt8),([74,117,108]:List UInt8),([65,117,103]:List UInt8),([83,101,112]:List UInt8),([79,99,116]:List UInt8),([78,111,118]:List UInt8),([68,101,99]:List UInt8)]:List Q5),())))
def O157:Orc:=⟨.nil,[],(.own 0),[(0,Q27)],F157⟩
theorem run157 (p):evTop Tryz.prog (CX [] [] [] []) (MX [] []) Tryz.f157 .leaf O157 p=F157 p:=by kernel_rfl
theorem ok157:O157.OK Tryz.prog 157:=ok0 run157 Tryz.func157 Tryz.call157
def F184 (p:(Unit×Bool×Unit)×Q56):Option (Unit×Q56):=(Option.bind (F183 (((),(2:Int),(24:Int),()),(p.2.1,()))) λr1=>(Option.bind (F181 (((),([58]:List UInt8),()),(r1.2.1,()))) λr2=>(Option.bind (F183 (((),(2:Int),(60:Int),()),(r2.2.1,()))) λr3=>(cond p.1.2.1 (Option.bind (F178 (((),()),((r3.2.1.1,r3.2.1.2.1,r3.2.1.2.2.1,r3.2.1.2.2.2.1,r3.2.1.2.2.2.2.1,r3.2.1.2.2.2.2.2.1,(w64 ((w64 ((3600:Int)*r1.1))+(w64 ((60:Int)*r3.1)))),r3.2.1.2.2.2.2.2.2.2.1,r3.2.1.2.2.2.2.2.2.2.2.1,()),()))) λr4=>(cond (!(decide (r4.1=([58]:List UInt8)))) (some ((),(r4.2.1,()))) (Option.bind (F181 (((),([58]:List UInt8),()),(r4.2.1,()))) λr5=>(Option.bind (F183 (((),(2:Int),(60:Int),()),(r5.2.1,()))) λr6=>(cond (decide (r5.2.1.2.2.2.2.2.2.1=r6.2.1.2.2.2.2.2.2.1)) (some ((),((r6.2.1.1,r6.2.1.2.1,r6.2.1.2.2.1,r6.2.1.2.2.2.1,r6.2.1.2.2.2.2.1,r6.2.1.2.2.2.2.2.1,(w64 (r5.2.1.2.2.2.2.2.2.1+r6.1)),r6.2.1.2.2.2.2.2.2.2.1,r6.2.1.2.2.2.2.2.2.2.2.1,()),()))) none))))) (Option.bind (F181 (((),([58]:List UInt8),()),((r3.2.1.1,r3.2.1.2.1,r3.2.1.2.2.1,r3.2.1.2.2.2.1,r3.2.1.2.2.2.2.1,r3.2.1.2.2.2.2.2.1,(w64 ((w64 ((3600:Int)*r1.1))+(w64 ((60:Int)*r3.1)))),r3.2.1.2.2.2.2.2.2.2.1,r3.2.1.2.2.2.2.2.2.2.2.1,()),()))) λr7=>(Option.bind (F183 (((),(2:Int),(60:Int),()),(r7.2.1,()))) λr8=>(cond (decide (r7.2.1.2.2.2.2.2.2.1=r8.2.1.2.2.2.2.2.2.1)) (some ((),((r8.2.1.1,r8.2.1.2.1,r8.2.1.2.2.1,r8.2.1.2.2.2.1,r8.2.1.2.2.2.2.1,r8.2.1.2.2.2.2.2.1,(w64 (r7.2.1.2.2.2.2.2.2.1+r8.1)),r8.2.1.2.2.2.2.2.2.2.1,r8.2.1.2.2.2.2.2.2.2.2.1,()),()))) none)))))))
def O184:Orc:=⟨(.cons (.ptr 0 0) (.cons .b .nil)),[(0,Q3)],(.tup .nil),[(0,Q3)],F184⟩
def X184:List (FuncId×Orc):=[(178,O178),(181,O181),(183,O183)]
theorem run184 (p):evTop Tryz.prog (CX X184 [] [] []) (MX X184 []) Tryz.f184 .leaf O184 p=F184 p:=by kernel_rfl
theorem ok184:O184.OK Tryz.prog 184:=ok0 run184 Tryz.func184 Tryz.call184 (hX:=⟨ok178,⟨ok181,⟨ok183,trivial⟩⟩⟩)
def F185 (p:Q23×Q56):Option (Unit×Q56):=(Option.bind (F178 (((),()),(p.2.1,()))) λr1=>(cond (!((!(decide (r1.2.1.2.2.1=(0:Int))))||(decide (r1.1=([]:List UInt8))))) (cond (!((decide (r1.1=([43]:List UInt8)))||(decide (r1.1=([45]:List UInt8))))) (Option.bind (F232 (((),()),(r1.2.1,()))) λr2=>(Option.bind (F183 (((),(2:Int),(24:Int),()),(r2.2.1,()))) λr3=>(Option.bind (F183 (((),(2:Int),(60:Int),()),(r3.2.1,()))) λr4=>(some ((),((r4.2.1.1,r4.2.1.2.1,r4.2.1.2.2.1,r4.2.1.2.2.2.1,r4.2.1.2.2.2.2.1,r4.2.1.2.2.2.2.2.1,r4.2.1.2.2.2.2.2.2.1,(w64 ((w64 ((60:Int)*r3.1))+r4.1)),r4.2.1.2.2.2.2.2.2.2.2.1,()),())))))) (Option.bind (F183 (((),(2:Int),(24:Int),()),((r1.2.1.1,(w64 (r1.2.1.2.1+(1:Int))),r1.2.1.2.2.1,r1.2.1.2.2.2.1,r1.2.1.2.2.2.2.1,r1.2.1.2.2.2.2.2.1,r1.2.1.2.2.2.2.2.2.1,r1.2.1.2.2.2.2.2.2.2.1,r1.2.1.2.2.2.2.2.2.2.2.1,()),()))) λr5=>(Option.bind (F183 (((),(2:Int),(60:Int),()),(r5.2.1,()))) λr6=>(cond (decide (r1.1=([45]:List UInt8))) (some ((),((r6.2.1.1,r6.2.1.2.1,r6.2.1.2.2.1,r6.2.1.2.2.2.1,r6.2.1.2.2.2.2.1,r6.2.1.2.2.2.2.2.1,r6.2.1.2.2.2.2.2.2.1,(w64 (0-(w64 ((w64 ((60:Int)*r5.1))+r6.1)))),r6.2.1.2.2.2.2.2.2.2.2.1,()),()))) (some ((),((r6.2.1.1,r6.2.1.2.1,r6.2.1.2.2.1,r6.2.1.2.2.2.1,r6.2.1.2.2.2.2.1,r6.2.1.2.2.2.2.2.1,r6.2.1.2.2.2.2.2.2.1,(w64 ((w64 ((60:Int)*r5.1))+r6.1)),r6.2.1.2.2.2.2.2.2.2.2.1,()),()))))))) (Option.bind (F232 (((),()),(r1.2.1,()))) λr7=>(Option.bind (F183 (((),(2:Int),(24:Int),()),(r7.2.1,()))) λr8=>(Option.bind (F183 (((),(2:Int),(60:Int),()),(r8.2.1,()))) λr9=>(some ((),((r9.2.1.1,r9.2.1.2.1,r9.2.1.2.2.1,r9.2.1.2.2.2.1,r9.2.1.2.2.2.2.1,r9.2.1.2.2.2.2.2.1,r9.2.1.2.2.2.2.2.2.1,(w64 ((w64 ((60:Int)*r8.1))+r9.1)),r9.2.1.2.2.2.2.2.2.2.2.1,()),()))))))))
def O185:Orc:=⟨Q19,[(0,Q3)],(.tup .nil),[(0,Q3)],F185⟩
def X185:List (FuncId×Orc):=[(178,O178),(183,O183),(232,O232)]
def I185:List FuncId:=[209,213]
theorem run185 (p):evTop Tryz.prog (CX X185 [] [] I185) (MX X185 []) Tryz.f185 .leaf O185 p=F185 p:=by kernel_rfl
theorem ok185:O185.OK Tryz.prog 185:=ok0 run185 Tryz.func185 Tryz.call185 (hX:=⟨ok178,⟨ok183,⟨ok232,trivial⟩⟩⟩) (hI:=⟨Tryz.call209,⟨Tryz.call213,trivial⟩⟩)
def F200 (_p:Unit×Unit):Option Q72:=(Option.bind (F43 ((((1:Int),(1:Int),(1:Int),()),()),())) λr1=>(Option.bind (F43 ((((9999:Int),(12:Int),(31:Int),()),()),())) λr2=>(some ((r1.1.1,r2.1.1,()),()))))
def O200:Orc:=⟨.nil,[],(.tup Q6),[],F200⟩
def X200:List (FuncId×Orc):=[(43,O43)]
theorem run200 (p):evTop Tryz.prog (CX X200 [] [] []) (MX X200 []) Tryz.f200 .leaf O200 p=F200 p:=by kernel_rfl
theorem ok200:O200.OK Tryz.prog 200:=ok0 run200 Tryz.func200 Tryz.call200 (hX:=⟨ok43,trivial⟩)
def F154 (p:Q72×Unit):Option ((Int×Int×Bool×Unit)×Unit):=(Option.bind (F200 ((),())) λr1=>(cond ((((decide (p.1.1.2.1<(-1439:Int)))||(decide ((1439:Int)<p.1.1.2.1)))||(decide (p.1.1.1<(w64 ((w64 (r1.1.1-(2:Int)))*(86400:Int))))))||(decide ((w64 ((w64 (r1.1.2.1+(2:Int)))*(86400:Int)))<p.1.1.1))) (some (((0:Int),(0:Int),false,()),())) (Option.bind (F79 (((w64 (p.1.1.1+(w64 ((60:Int)*p.1.1.2.1)))),(86400:Int),()),())) λr2=>(some ((r2.1,(w64 ((w64 (p.1.1.1+(w64 ((60:Int)*p.1.1.2.1))))-(w64 (r2.1*(86400:Int))))),((decide (r1.1.1<=r2.1))&&(decide (r2.1<=r1.1.2.1))),()),())))))
def O154:Orc:=⟨(.cons (.agg Q6) .nil),[],Q74,[],F154⟩
def X154:List (FuncId×Orc):=[(79,O79),(200,O200)]
theorem run154 (p):evTop Tryz.prog (CX X154 [] [] []) (MX X154 []) Tryz.f154 .leaf O154 p=F154 p:=by kernel_rfl
theorem ok154:O154.OK Tryz.prog 154:=ok0 run154 Tryz.func154 Tryz.call154 (hX:=⟨ok79,⟨ok200,trivial⟩⟩)
def F214 (p:Q11×Unit):Option Q11:=(some ((Int.tmod (w64 ((Int.tmod (w64 ((Int.tmod p.1.1 (7:Int))+(3:Int))) (7:Int))+(7:Int))) (7:Int)),()))
def O214:Orc:=⟨Q10,[],(.i .i64),[],F214⟩
theorem run214 (p):evTop Tryz.prog (CX [] [] [] []) (MX [] []) Tryz.f214 .leaf O214 p=F214 p:=by kernel_rfl
theorem ok214:O214.OK Tryz.prog 214:=ok0 run214 Tryz.func214 Tryz.call214
def F186 (p:Q23×Q56):Option ((Q32×Int×Int×Unit)×Q56):=(Option.bind (cond ((decide (p.2.1.2.2.1=(0:Int)))&&(decide (p.2.1.2.1<(p.2.1.1.length:Int)))) (some (((),(),()),((p.2.1.1,p.2.1.2.1,(4:Int),p.2.1.2.2.2.1,p.2.1.2.2.2.2.1,p.2.1.2.2.2.2.2.1,p.2.1.2.2.2.2.2.2.1,p.2.1.2.2.2.2.2.2.2.1,p.2.1.2.2.2.2.2.2.2.2.1,()),((0:Int),(0:Int),()),()))) (some (((),(),()),(p.2.1,((0:Int),(0:Int),()),())))) λp1=>(cond (!(decide (p1.2.1.2.2.1=(0:Int)))) (some ((((0:Int),(0:Int),()),p1.2.1.2.1,p1.2.1.2.2.1,()),(p1.2.1,()))) (Option.bind (F43 (((p1.2.1.2.2.2.1,p1.2.1.2.2.2.2.1,p1.2.1.2.2.2.2.2.1,()),()),())) λr2=>(Option.bind (some (((),(),r2.1.1,r2.1.2.1,(),()),(p1.2.1,p1.2.2.1,((w64 ((w64 ((w64 (r2.1.1*(86400:Int)))+p1.2.1.2.2.2.2.2.2.1))-(w64 ((60:Int)*p1.2.1.2.2.2.2.2.2.2.1)))),p1.2.1.2.2.2.2.2.2.2.1,()),()))) λp3=>(Option.bind (Option.bind (F154 ((p3.2.2.2.1,()),())) λr4=>(some (((),(),p3.1.2.2.1,p3.1.2.2.2.1,(),r4.1.2.2.1,()),p3.2))) λp5=>(Option.bind (cond (!((!(decide (p5.1.2.2.2.1=(0:Int))))||(!p5.1.2.2.2.2.2.1))) (cond (decide ((0:Int)<=p5.2.1.2.2.2.2.2.2.2.2.1)) (Option.bind (F214 ((p5.1.2.2.1,()),())) λr6=>(some (((),(),(),(!(decide (p5.2.1.2.2.2.2.2.2.2.2.1=r6.1))),()),p5.2))) (some (((),(),(),false,()),p5.2))) (some (((),(),(),true,()),p5.2))) λp7=>(cond p7.1.2.2.2.1 (some ((((0:Int),(0:Int),()),(0:Int),(2:Int),()),(p7.2.1,()))) (Option.bind (some (((),(),(0:Int),(0:Int),()),(p7.2.1,p7.2.2.2.1,()))) λp8=>(some ((p8.2.2.1,p8.1.2.2.1,p8.1.2.2.2.1,()),(p8.2.1,())))))))))))
def O186:Orc:=⟨Q19,[(0,Q3)],(.tup (.cons (.agg Q6) Q6)),[(0,Q3)],F186⟩
def H186:HT:=(.two .leaf (.two (.join [(.normal,⟨[(0,(.ptr 0 0)),(2,(.ptr 1 0))],[(0,Q3),(1,Q35)],2⟩)] .leaf) (.two .leaf (.two .leaf (.two (.join [(.normal,⟨[(0,(.ptr 0 0)),(2,(.ptr 1 0)),(5,(.i .i64)),(6,(.i .i64)),(7,(.ptr 2 0))],[(0,Q3),(1,Q35),(2,Q35)],3⟩)] .leaf) (.two (.two (.join [(.normal,⟨[(0,(.ptr 0 0)),(2,(.ptr 1 0)),(5,(.i .i64)),(6,(.i .i64)),(7,(.ptr 2 0)),(10,.b)],[(0,Q3),(1,Q35),(2,Q35)],3⟩)] .leaf) (.two (.join [(.normal,⟨[(0,(.ptr 0 0)),(2,(.ptr 1 0)),(7,(.ptr 2 0)),(105,.b)],[(0,Q3),(1,Q35),(2,Q35)],3⟩)] .leaf) .leaf)) (.two (.join [(.normal,⟨[(0,(.ptr 0 0)),(2,(.ptr 1 0)),(3,(.i .i64)),(4,(.i .i64))],[(0,Q3),(1,Q35)],2⟩)] .leaf) .leaf)))))))
def X186:List (FuncId×Orc):=[(43,O43),(154,O154),(214,O214)]
theorem run186 (p):evTop Tryz.prog (CX X186 [] [] []) (MX X186 []) Tryz.f186 H186 O186 p=F186 p:=by kernel_rfl
theorem ok186:O186.OK Tryz.prog 186:=ok0 run186 Tryz.func186 Tryz.call186 (hX:=⟨ok43,⟨ok154,⟨ok214,trivial⟩⟩⟩)
def F137 (p:Q21×Unit):Option ((Q32×Int×Int×Unit)×Unit):=(Option.bind (F176 ((p.1.1,()),())) λr1=>(Option.bind (Option.bind (F178 (((),()),((r1.2.2.1,r1.2.1.2.1,r1.2.1.2.2.1,r1.2.1.2.2.2.1,r1.2.1.2.2.2.2.1,r1.2.1.2.2.2.2.2.1,r1.2.1.2.2.2.2.2.2.1,r1.2.1.2.2.2.2.2.2.2.1,r1.2.1.2.2.2.2.2.2.2.2.1,()),()))) λr2=>(Option.bind (F177 ((r2.1,()),())) λr3=>(cond (!r3.1) (Option.bind (F180 ((),())) λr4=>(Option.bind (F179 (((),r4.2.1,()),(r2.2.1,()))) λr5=>(Option.bind (F181 (((),([44]:List UInt8),()),((r5.2.1.1,r5.2.1.2.1,r5.2.1.2.2.1,r5.2.1.2.2.2.1,r5.2.1.2.2.2.2.1,r5.2.1.2.2.2.2.2.1,r5.2.1.2.2.2.2.2.2.1,r5.2.1.2.2.2.2.2.2.2.1,r5.1,()),()))) λr6=>(Option.bind (F181 (((),([32]:List UInt8),()),(r6.2.1,()))) λr7=>(some (((),(),()),(((0:Int),(0:Int),()),r7.2.1,()))))))) (some (((),(),()),(((0:Int),(0:Int),()),r2.2.1,())))))) λp8=>(Option.bind (F182 (((),()),(p8.2.2.1,()))) λr9=>(Option.bind (F181 (((),([32]:List UInt8),()),((r9.2.1.1,r9.2.1.2.1,r9.2.1.2.2.1,r9.2.1.2.2.2.1,r9.2.1.2.2.2.2.1,r9.1,r9.2.1.2.2.2.2.2.2.1,r9.2.1.2.2.2.2.2.2.2.1,r9.2.1.2.2.2.2.2.2.2.2.1,()),()))) λr10=>(Option.bind (F157 ((),())) λr11=>(Option.bind (F179 (((),r11.2.1,()),(r10.2.1,()))) λr12=>(Option.bind (F181 (((),([32]:List UInt8),()),((r12.2.1.1,r12.2.1.2.1,r12.2.1.2.2.1,r12.2.1.2.2.2.1,(w64 ((1:Int)+r12.1)),r12.2.1.2.2.2.2.2.1,r12.2.1.2.2.2.2.2.2.1,r12.2.1.2.2.2.2.2.2.2.1,r12.2.1.2.2.2.2.2.2.2.2.1,()),()))) λr13=>(Option.bind (F183 (((),(4:Int),(10000:Int),()),(r13.2.1,()))) λr14=>(Option.bind (F181 (((),([32]:List UInt8),()),((r14.2.1.1,r14.2.1.2.1,r14.2.1.2.2.1,r14.1,r14.2.1.2.2.2.2.1,r14.2.1.2.2.2.2.2.1,r14.2.1.2.2.2.2.2.2.1,r14.2.1.2.2.2.2.2.2.2.1,r14.2.1.2.2.2.2.2.2.2.2.1,()),()))) λr15=>(Option.bind (F184 (((),true,()),(r15.2.1,()))) λr16=>(Option.bind (F181 (((),([32]:List UInt8),()),(r16.2.1,()))) λr17=>(Option.bind (Option.bind (F178 (((),()),(r17.2.1,()))) λr18=>(cond ((decide (r18.1=([43]:List UInt8)))||(decide (r18.1=([45]:List UInt8)))) (Option.bind (F185 (((),()),(r18.2.1,()))) λr19=>(some (((),(),()),(p8.2.1,r19.2.1,())))) (Option.bind (F179 (((),([([71,77,84]:List UInt8),([85,84]:List UInt8)]:List Q5),()),(r18.2.1,()))) λr20=>(some (((),(),()),(p8.2.1,r20.2.1,())))))) λp21=>(Option.bind (F186 (((),()),(p21.2.2.1,()))) λr22=>(some (r22.1,())))))))))))))))
def O137:Orc:=⟨Q20,[],(.tup (.cons (.agg Q6) Q6)),[],F137⟩
def H137:HT:=(.two .leaf (.two .leaf (.two (.join [(.normal,⟨[(2,(.ptr 0 0)),(5,(.ptr 1 0))],[(0,Q35),(1,Q3)],2⟩)] .leaf) (.two .leaf (.two .leaf (.two .leaf (.two .leaf (.two .leaf (.two .leaf (.two .leaf (.two .leaf (.two (.join [(.normal,⟨[(2,(.ptr 0 0)),(5,(.ptr 1 0))],[(0,Q35),(1,Q3)],2⟩)] .leaf) .leaf))))))))))))
def X137:List (FuncId×Orc):=[(157,O157),(176,O176),(177,O177),(178,O178),(179,O179),(180,O180),(181,O181),(182,O182),(183,O183),(184,O184),(185,O185),(186,O186)]
theorem run137 (p):evTop Tryz.prog (CX X137 [] [] []) (MX X137 []) Tryz.f137 H137 O137 p=F137 p:=by kernel_rfl
theorem ok137:O137.OK Tryz.prog 137:=ok0 run137 Tryz.func137 Tryz.call137 (hX:=⟨ok157,⟨ok176,⟨ok177,⟨ok178,⟨ok179,⟨ok180,⟨ok181,⟨ok182,⟨ok183,⟨ok184,⟨ok185,⟨ok186,trivial⟩⟩⟩⟩⟩⟩⟩⟩⟩⟩⟩⟩)
def F155 (p:Q11×Unit):Option Q81:=(Option.bind (F200 ((),())) λr1=>(cond ((decide (p.1.1<r1.1.1))||(decide (r1.1.2.1<p.1.1))) (some ((((0:Int),(0:Int),(0:Int),()),(2:Int),()),())) (Option.bind (F79 (((w64 (p.1.1+(719468:Int))),(146097:Int),()),())) λr2=>(Option.bind (some (((),r2.1,(w64 ((w64 (p.1.1+(719468:Int)))-(w64 (r2.1*(146097:Int))))),(w64 (Int.tdiv (w64 ((w64 ((w64 ((w64 ((w64 (p.1.1+(719468:Int)))-(w64 (r2.1*(146097:Int)))))-(w64 (Int.tdiv (w64 ((w64 (p.1.1+(719468:Int)))-(w64 (r2.1*(146097:Int))))) (1460:Int)))))+(w64 (Int.tdiv (w64 ((w64 (p.1.1+(719468:Int)))-(w64 (r2.1*(146097:Int))))) (36524:Int)))))-(w64 (Int.tdiv (w64 ((w64 (p.1.1+(719468:Int)))-(w64 (r2.1*(146097:Int))))) (146096:Int))))) (365:Int))),()),(((0:Int),(0:Int),(0:Int),()),()))) λp3=>(Option.bind (some (((),p3.1.2.1,(w64 (p3.1.2.2.1-(w64 ((w64 ((w64 ((365:Int)*p3.1.2.2.2.1))+(w64 (Int.tdiv p3.1.2.2.2.1 (4:Int)))))-(w64 (Int.tdiv p3.1.2.2.2.1 (100:Int))))))),p3.1.2.2.2.1,()),p3.2)) λp4=>(Option.bind (some (((),p4.1.2.1,p4.1.2.2.1,p4.1.2.2.2.1,(w64 (Int.tdiv (w64 ((w64 ((5:Int)*p4.1.2.2.1))+(2:Int))) (153:Int))),()),p4.2)) λp5=>(Option.bind (some (((),(),()),(p5.2.1,((w64 (p5.1.2.2.2.1+(w64 ((400:Int)*p5.1.2.1)))),(w64 (p5.1.2.2.2.2.1+(3:Int))),(w64 ((w64 (p5.1.2.2.1-(w64 (Int.tdiv (w64 ((w64 ((153:Int)*p5.1.2.2.2.2.1))+(2:Int))) (5:Int)))))+(1:Int))),()),()))) λp6=>(Option.bind (Option.bind (some (((),(),(decide ((12:Int)<p6.2.2.1.2.1)),()),p6.2)) λp7=>(cond p7.1.2.2.1 (Option.bind (some (((),(),()),(p7.2.1,((w64 (p7.2.2.1.1+(1:Int))),(w64 (p7.2.2.1.2.1-(12:Int))),p7.2.2.1.2.2.1,()),()))) λp8=>(some (((),(),()),p8.2))) (some (((),(),()),p7.2)))) λp9=>(some ((p9.2.2.1,(0:Int),()),()))))))))))
def O155:Orc:=⟨Q10,[],(.tup (.cons Q55 Q10)),[],F155⟩
def H155:HT:=(.two .leaf (.two .leaf (.two .leaf (.two .leaf (.two .leaf (.two (.join [(.normal,⟨[(2,(.ptr 0 0)),(7,(.i .i64)),(8,(.i .i64)),(9,(.i .i64))],[(0,Q24)],1⟩)] .leaf) (.two (.join [(.normal,⟨[(2,(.ptr 0 0)),(7,(.i .i64)),(8,(.i .i64)),(9,(.i .i64))],[(0,Q24)],1⟩)] .leaf) (.two (.join [(.normal,⟨[(2,(.ptr 0 0)),(7,(.i .i64)),(8,(.i .i64)),(9,(.i .i64)),(10,(.i .i64))],[(0,Q24)],1⟩)] .leaf) (.two (.join [(.normal,⟨[(2,(.ptr 0 0)),(11,(.ptr 1 0))],[(0,Q24),(1,Q24)],2⟩)] .leaf) (.two (.join [(.normal,⟨[(2,(.ptr 0 0)),(11,(.ptr 1 0))],[(0,Q24),(1,Q24)],2⟩)] (.two (.join [(.normal,⟨[(2,(.ptr 0 0)),(11,(.ptr 1 0)),(74,.b)],[(0,Q24),(1,Q24)],2⟩)] .leaf) (.two (.join [(.normal,⟨[(2,(.ptr 0 0)),(11,(.ptr 1 0))],[(0,Q24),(1,Q24)],2⟩)] .leaf) .leaf))) .leaf))))))))))
def X155:List (FuncId×Orc):=[(79,O79),(200,O200)]
theorem run155 (p):evTop Tryz.prog (CX X155 [] [] []) (MX X155 []) Tryz.f155 H155 O155 p=F155 p:=by kernel_rfl
theorem ok155:O155.OK Tryz.prog 155:=ok0 run155 Tryz.func155 Tryz.call155 (hX:=⟨ok79,⟨ok200,trivial⟩⟩)
def F138 (p:Q72×Unit):Option Q81:=(Option.bind (F154 ((p.1.1,()),())) λr1=>(cond (!r1.1.2.2.1) (some ((((0:Int),(0:Int),(0:Int),()),(2:Int),()),())) (Option.bind (F155 ((r1.1.1,()),())) λr2=>(some (r2.1,())))))
def O138:Orc:=⟨(.cons (.agg Q6) .nil),[],(.tup (.cons Q55 Q10)),[],F138⟩
def X138:List (FuncId×Orc):=[(154,O154),(155,O155)]
theorem run138 (p):evTop Tryz.prog (CX X138 [] [] []) (MX X138 []) Tryz.f138 .leaf O138 p=F138 p:=by kernel_rfl
theorem ok138:O138.OK Tryz.prog 138:=ok0 run138 Tryz.func138 Tryz.call138 (hX:=⟨ok154,⟨ok155,trivial⟩⟩)
def F84 (p:(Q43×Unit)×Unit):Option ((Int×Bool×Unit)×Unit):=(Option.bind (F136 ((p.1.1.2.2.2.2.2.2.1,([100,97,116,101]:List UInt8),()),())) λr1=>(Option.bind (F137 ((r1.1.1,()),())) λr2=>(Option.bind (F138 ((r2.1.1,()),())) λr3=>(Option.bind (F43 ((r3.1.1,()),())) λr4=>(some ((r4.1.1,((r1.1.2.1&&(decide (r2.1.2.2.1=(0:Int))))&&(decide (r3.1.2.1=(0:Int)))),()),()))))))
def O84:Orc:=⟨(.cons (.agg Q15) .nil),[],(.tup (.cons (.i .i64) (.cons .b .nil))),[],F84⟩
def X84:List (FuncId×Orc):=[(43,O43),(136,O136),(137,O137),(138,O138)]
theorem run84 (p):evTop Tryz.prog (CX X84 [] [] []) (MX X84 []) Tryz.f84 .leaf O84 p=F84 p:=by kernel_rfl
theorem ok84:O84.OK Tryz.prog 84:=ok0 run84 Tryz.func84 Tryz.call84 (hX:=⟨ok43,⟨ok136,⟨ok137,⟨ok138,trivial⟩⟩⟩⟩)
def F47 (p:(Q43×Q16×Unit)×Unit):Option Q31:=(Option.bind (F84 ((p.1.1,()),())) λr1=>(Option.bind (F43 (((p.1.2.1.2.2.2.2.1,p.1.2.1.2.2.2.2.2.1,p.1.2.1.2.2.2.2.2.2.1,()),()),())) λr2=>(cond (decide (p.1.2.1.1=(8:Int))) (some ((r1.1.2.1&&(decide (r1.1.1<r2.1.1))),())) (cond (decide (p.1.2.1.1=(9:Int))) (some ((r1.1.2.1&&(decide (r1.1.1=r2.1.1))),())) (some ((r1.1.2.1&&(decide (r2.1.1<=r1.1.1))),()))))))
def O47:Orc:=⟨(.cons (.agg Q15) (.cons (.agg Q2) .nil)),[],.b,[],F47⟩
def X47:List (FuncId×Orc):=[(43,O43),(84,O84)]
theorem run47 (p):evTop Tryz.prog (CX X47 [] [] []) (MX X47 []) Tryz.f47 .leaf O47 p=F47 p:=by kernel_rfl
theorem ok47:O47.OK Tryz.prog 47:=ok0 run47 Tryz.func47 Tryz.call47 (hX:=⟨ok43,⟨ok84,trivial⟩⟩)
noncomputable def F51 (p:Q75×Unit):Option Q31:=(Option.bind (F88 ((p.1.1,()),())) λr1=>(Option.bind (F88 ((p.1.2.1,()),())) λr2=>(cond (decide (List.length r1.1<4294967281)) (some ((Go.Lib.contains r1.1 r2.1),())) none)))
noncomputable def O51:Orc:=⟨Q77,[],.b,[],F51⟩
noncomputable def H51:HT:=.leaf
noncomputable def X51:List (FuncId×Orc):=[(88,O88)]
noncomputable def Z51:List (FuncId×Deed):=[(87,zContains)]
theorem run51 (p):evTop Tryz.prog (CX X51 [] Z51 []) (MX X51 []) Tryz.f51 H51 O51 p=F51 p:=by kernel_rfl
theorem ok51:O51.OK Tryz.prog 51:=ok0 run51 Tryz.func51 Tryz.call51 (hX:=⟨ok88,trivial⟩) (hZ:=⟨zContains87,trivial⟩)
noncomputable def F50 (p:(Q5×Unit×Unit)×Q66):Option (Bool×Q66):=(Option.bind (F51 ((p.1.1,p.2.1.2.2.2.2.2.2.2.2.1,()),())) λr1=>(some (r1.1,(p.2.1,()))))
noncomputable def O50:Orc:=⟨(.cons .s Q19),[(0,Q40)],.b,[(0,Q40)],F50⟩
noncomputable def H50:HT:=.leaf
noncomputable def X50:List (FuncId×Orc):=[(51,O51)]
theorem run50 (p):evTop Tryz.prog (CX X50 [] [] []) (MX X50 []) Tryz.f50 H50 O50 p=F50 p:=by kernel_rfl
theorem ok50:O50.OK Tryz.prog 50:=ok0 run50 Tryz.func50 Tryz.call50 (hX:=⟨ok51,trivial⟩)
noncomputable def S85c50_0:Shape:=⟨[(0,(.sl .str)),(1,(.fn 50 Q19)),(7,(.i .i64)),(8,(.i .i64))],[(0,Q40)],1⟩
noncomputable def U85c50_0:Outs:=[((.exit 0),⟨[(1,(.fn 50 Q19))],[(0,Q40)],1⟩),(.ret,⟨[(1,(.fn 50 Q19)),(4,(.i .i64))],[(0,Q40)],1⟩)]
abbrev T85c50_0:Type:=((Q53×Q23×Int×Int×Unit)×Q66)
abbrev R85c50_0:Type:=((Q65×Q66)⊕((Q23×Int×Unit)×Q66))
noncomputable def B85c50_0 (p:T85c50_0):Option (T85c50_0⊕R85c50_0):=(cond (decide (p.1.2.2.2.1<p.1.2.2.1)) (cond ((decide ((0:Int)<=p.1.2.2.2.1))&&(decide (p.1.2.2.2.1<(p.1.1.length:Int)))) (Option.bind (F50 (((List.getD p.1.1 p.1.2.2.2.1.toNat ([]:List UInt8)),(),()),p.2)) λr1=>(cond r1.1 (some (Sum.inr (Sum.inr ((((),()),p.1.2.2.2.1,()),(r1.2.1,()))))) (some (Sum.inl ((p.1.1,((),()),p.1.2.2.1,(w64 (p.1.2.2.2.1+(1:Int))),()),(r1.2.1,())))))) none) (some (Sum.inr (Sum.inl ((((),()),()),p.2)))))
noncomputable def L85c50_0 (p:T85c50_0):Option R85c50_0:=loopOf B85c50_0 p
noncomputable def H85c50_0:HT:=.leaf
noncomputable def F85c50 (p:(Q53×Q23×Unit)×Q66):Option (Int×Q66):=(Option.bind (Option.bind (L85c50_0 ((p.1.1,((),()),(p.1.1.length:Int),(0:Int),()),(p.2.1,()))) λp2=>(match p2 with | Sum.inl p3=>(some (Sum.inl ((((),()),()),p3.2))) | Sum.inr q3=>(some (Sum.inr ((((),()),q3.1.2.1,()),q3.2))))) λp4=>(match p4 with | Sum.inl p5=>(some ((-1:Int),p5.2)) | Sum.inr q5=>(some (q5.1.2.1,q5.2))))
noncomputable def O85c50:Orc:=⟨(.cons (.sl .str) (.cons (.fn 50 Q19) .nil)),[(0,Q40)],(.i .i64),[(0,Q40)],F85c50⟩
noncomputable def H85c50:HT:=(.two .leaf (.two (.join [(.normal,⟨[(1,(.fn 50 Q19))],[(0,Q40)],1⟩),(.ret,⟨[(1,(.fn 50 Q19)),(4,(.i .i64))],[(0,Q40)],1⟩)] (.two .leaf (.one (.loop S85c50_0 U85c50_0 L85c50_0 H85c50_0)))) .leaf))
noncomputable def X85c50:List (FuncId×Orc):=[(50,O50)]
theorem round85c50_0 (p):round Tryz.prog (CX X85c50 [] [] []) (MX X85c50 []) 1 19 (subc (bodyOf Tryz.f85) [true,false,true,false,false]) H85c50_0 S85c50_0 U85c50_0 p=B85c50_0 p:=by kernel_rfl
theorem run85c50 (p):evTop Tryz.prog (CX X85c50 [] [] []) (MX X85c50 []) Tryz.f85 H85c50 O85c50 p=F85c50 p:=by kernel_rfl
theorem ok85c50:O85c50.OK Tryz.prog 85:=okk run85c50 Tryz.func85 Tryz.call85 (ls:=[⟨subc (bodyOf Tryz.f85) [true,false,true,false,false],H85c50_0,S85c50_0,U85c50_0,L85c50_0⟩]) ⟨LoopRec.of rfl round85c50_0,trivial⟩ (hX:=⟨ok50,trivial⟩)
noncomputable def F48c50 (p:(Q53×Q23×Unit)×Q66):Option (Bool×Q66):=(Option.bind (F85c50 ((p.1.1,((),()),()),(p.2.1,()))) λr1=>(some ((decide ((0:Int)<=r1.1)),(r1.2.1,()))))
noncomputable def O48c50:Orc:=⟨(.cons (.sl .str) (.cons (.fn 50 Q19) .nil)),[(0,Q40)],.b,[(0,Q40)],F48c50⟩
noncomputable def H48c50:HT:=.leaf
noncomputable def X48c50:List (FuncId×Orc):=[(85,O85c50)]
theorem run48c50 (p):evTop Tryz.prog (CX X48c50 [] [] []) (MX X48c50 []) Tryz.f48 H48c50 O48c50 p=F48c50 p:=by kernel_rfl
theorem ok48c50:O48c50.OK Tryz.prog 48:=ok0 run48c50 Tryz.func48 Tryz.call48 (hX:=⟨ok85c50,trivial⟩)
noncomputable def F28 (p:(Q43×Q16×Unit)×Unit):Option Q31:=(Option.bind (cond (decide (p.1.2.1.1=(2:Int))) (some (Sum.inr (((!decide ((p.1.1.2.2.2.2.1 &&& p.1.2.1.2.1)=(0:UInt8))),()),()))) (cond (decide (p.1.2.1.1=(3:Int))) (some (Sum.inr (((decide ((p.1.1.2.2.2.2.1 &&& p.1.2.1.2.1)=(0:UInt8))),()),()))) (cond (decide (p.1.2.1.1=(4:Int))) (some (Sum.inr (((decide (p.1.2.1.2.2.1<(p.1.1.2.2.2.2.2.1.length:Int))),()),()))) (cond (decide (p.1.2.1.1=(5:Int))) (some (Sum.inr (((decide ((p.1.1.2.2.2.2.2.1.length:Int)<p.1.2.1.2.2.1)),()),()))) (cond (decide (p.1.2.1.1=(6:Int))) (Option.bind (F46 ((p.1.2.1.2.2.2.1,p.1.1.1,p.1.1.2.1,()),())) λr1=>(some (Sum.inr ((r1.1,()),())))) (cond (decide (p.1.2.1.1=(7:Int))) (Option.bind (F46 ((p.1.2.1.2.2.2.1,p.1.1.2.2.2.1,p.1.1.2.2.1,()),())) λr2=>(some (Sum.inr ((r2.1,()),())))) (Option.bind (cond (decide (p.1.2.1.1=(8:Int))) (some (((),(),p.1.2.1.1,(decide (p.1.2.1.1=(8:Int))),()),(p.1.1,p.1.2.1,()))) (cond (decide (p.1.2.1.1=(9:Int))) (some (((),(),p.1.2.1.1,(decide (p.1.2.1.1=(9:Int))),()),(p.1.1,p.1.2.1,()))) (some (((),(),p.1.2.1.1,(decide (p.1.2.1.1=(10:Int))),()),(p.1.1,p.1.2.1,()))))) λp3=>(cond p3.1.2.2.2.1 (Option.bind (F47 (p3.2,())) λr4=>(some (Sum.inr ((r4.1,()),())))) (cond (decide (p3.1.2.2.1=(11:Int))) (Option.bind (F49 ((p3.2.1.2.2.2.2.2.2.1,p3.2.2.1.2.2.2.2.2.2.2.1,()),())) λr5=>(Option.bind (F48c50 ((r5.1,((),()),()),(p3.2.2.1,()))) λr6=>(some (Sum.inr ((r6.1,()),()))))) (cond (decide (p3.1.2.2.1=(12:Int))) (Option.bind (F51 ((p3.2.1.2.2.2.2.2.2.2.1,p3.2.2.1.2.2.2.2.2.2.2.2.1,()),())) λr7=>(some (Sum.inr ((r7.1,()),())))) (cond (decide (p3.1.2.2.1=(13:Int))) (Option.bind (F51 ((p3.2.1.2.2.2.2.2.1,p3.2.2.1.2.2.2.2.2.2.2.2.1,()),())) λr8=>(some (Sum.inr ((r8.1,()),())))) (some (Sum.inl ((),())))))))))))))) λp9=>(match p9 with | Sum.inl _p10=>(some (true,())) | Sum.inr q10=>(some (q10.1.1,()))))
noncomputable def O28:Orc:=⟨(.cons (.agg Q15) (.cons (.agg Q2) .nil)),[],.b,[],F28⟩
noncomputable def H28:HT:=(.two .leaf (.two .leaf (.two (.join [(.normal,⟨[],[],0⟩),(.ret,⟨[(4,.b)],[],0⟩)] (.two .leaf (.one (.two .leaf (.two .leaf (.two .leaf (.two .leaf (.two .leaf (.two .leaf (.two .leaf (.two .leaf (.two .leaf (.two .leaf (.two .leaf (.two .leaf (.two (.join [(.normal,⟨[(2,(.ptr 0 0)),(3,(.ptr 1 0)),(12,(.i .i64)),(68,.b)],[(0,(.vars Q15)),(1,Q40)],2⟩)] .leaf) .leaf)))))))))))))))) .leaf)))
noncomputable def X28:List (FuncId×Orc):=[(46,O46),(47,O47),(48,O48c50),(49,O49),(51,O51)]
theorem run28 (p):evTop Tryz.prog (CX X28 [] [] []) (MX X28 []) Tryz.f28 H28 O28 p=F28 p:=by kernel_rfl
theorem ok28:O28.OK Tryz.prog 28:=ok0 run28 Tryz.func28 Tryz.call28 (hX:=⟨ok46,⟨ok47,⟨ok48c50,⟨ok49,⟨ok51,trivial⟩⟩⟩⟩⟩)
noncomputable def S15_0:Shape:=⟨[(3,(.ptr 0 0)),(5,(.own 1)),(11,(.sl Q0)),(12,(.i .i64)),(13,(.i .i64))],[(0,(.vars Q15)),(1,(.data .bool))],2⟩
noncomputable def U15_0:Outs:=[((.exit 0),⟨[(5,(.own 0))],[(0,(.data .bool))],1⟩)]
abbrev T15_0:Type:=((Unit×Unit×Q44×Int×Int×Unit)×(Q43×(List Bool)×Unit))
abbrev R15_0:Type:=(Q23×((List Bool)×Unit))
noncomputable def B15_0 (p:T15_0):Option (T15_0⊕R15_0):=(cond (decide (p.1.2.2.2.2.1<p.1.2.2.2.1)) (Option.bind (Option.bind (cond ((decide ((0:Int)<=p.1.2.2.2.2.1))&&(decide (p.1.2.2.2.2.1<(p.1.2.2.1.length:Int)))) (some (((),(),(),p.1.2.2.1,p.1.2.2.2.1,p.1.2.2.2.2.1,()),(p.2.1,p.2.2.1,((List.getD p.1.2.2.1 p.1.2.2.2.2.1.toNat kz).1,(List.getD p.1.2.2.1 p.1.2.2.2.2.1.toNat kz).2.1,(List.getD p.1.2.2.1 p.1.2.2.2.2.1.toNat kz).2.2.1,(List.getD p.1.2.2.1 p.1.2.2.2.2.1.toNat kz).2.2.2.1,(List.getD p.1.2.2.1 p.1.2.2.2.2.1.toNat kz).2.2.2.2.1.1,(List.getD p.1.2.2.1 p.1.2.2.2.2.1.toNat kz).2.2.2.2.1.2.1,(List.getD p.1.2.2.1 p.1.2.2.2.2.1.toNat kz).2.2.2.2.1.2.2.1,(List.getD p.1.2.2.1 p.1.2.2.2.2.1.toNat kz).2.2.2.2.2.1,(List.getD p.1.2.2.1 p.1.2.2.2.2.1.toNat kz).2.2.2.2.2.2.1,()),()))) none) λp1=>(Option.bind (Option.bind (F27 ((p1.2.2.2.1.1,()),())) λr2=>(some (((),(),(),(w64 ((p1.2.2.1.length:Int)-r2.1)),p1.1.2.2.2.1,p1.1.2.2.2.2.1,p1.1.2.2.2.2.2.1,()),p1.2))) λp3=>(cond (((decide ((0:Int)<=p3.1.2.2.2.1))&&(decide (p3.1.2.2.2.1<=(p3.2.2.1.length:Int))))&&(decide ((p3.2.2.1.length:Int)<=(p3.2.2.1.length:Int)))) (Option.bind (cond (decide (p3.2.2.2.1.1=(14:Int))) (cond (decide ((0:Int)<((((Int.toNat (p3.2.2.1.length:Int))-p3.1.2.2.2.1.toNat):Nat):Int))) (some (((),(),p3.1.2.2.2.1,(!(List.getD p3.2.2.1 p3.1.2.2.2.1.toNat false)),p3.1.2.2.2.2.1,p3.1.2.2.2.2.2.1,p3.1.2.2.2.2.2.2.1,()),(p3.2.1,p3.2.2.1,()))) none) (cond (decide (p3.2.2.2.1.1=(15:Int))) (cond (decide ((0:Int)<((((Int.toNat (p3.2.2.1.length:Int))-p3.1.2.2.2.1.toNat):Nat):Int))) (cond ((decide ((1:Int)<((((Int.toNat (p3.2.2.1.length:Int))-p3.1.2.2.2.1.toNat):Nat):Int)))||(List.getD p3.2.2.1 p3.1.2.2.2.1.toNat false)) (some (((),(),p3.1.2.2.2.1,((List.getD p3.2.2.1 p3.1.2.2.2.1.toNat false)||(List.getD p3.2.2.1 (p3.1.2.2.2.1.toNat+1) false)),p3.1.2.2.2.2.1,p3.1.2.2.2.2.2.1,p3.1.2.2.2.2.2.2.1,()),(p3.2.1,p3.2.2.1,()))) none) none) (cond (decide (p3.2.2.2.1.1=(16:Int))) (cond (decide ((0:Int)<((((Int.toNat (p3.2.2.1.length:Int))-p3.1.2.2.2.1.toNat):Nat):Int))) (cond ((decide ((1:Int)<((((Int.toNat (p3.2.2.1.length:Int))-p3.1.2.2.2.1.toNat):Nat):Int)))||(!(List.getD p3.2.2.1 p3.1.2.2.2.1.toNat false))) (some (((),(),p3.1.2.2.2.1,((List.getD p3.2.2.1 p3.1.2.2.2.1.toNat false)&&(List.getD p3.2.2.1 (p3.1.2.2.2.1.toNat+1) false)),p3.1.2.2.2.2.1,p3.1.2.2.2.2.2.1,p3.1.2.2.2.2.2.2.1,()),(p3.2.1,p3.2.2.1,()))) none) none) (Option.bind (F28 ((p3.2.1,p3.2.2.2.1,()),())) λr4=>(some (((),(),p3.1.2.2.2.1,r4.1,p3.1.2.2.2.2.1,p3.1.2.2.2.2.2.1,p3.1.2.2.2.2.2.2.1,()),(p3.2.1,p3.2.2.1,()))))))) λp5=>(Option.bind (cond (((decide ((0:Int)<=p5.1.2.2.1))&&(decide (p5.1.2.2.1<=p5.1.2.2.1)))&&(decide (p5.1.2.2.1<=(p5.2.2.1.length:Int)))) (cond (bytesOK ((List.length (List.take p5.1.2.2.1.toNat p5.2.2.1))+(List.length ([p5.1.2.2.2.1]:List Bool))) 1) (some (((),(),p5.1.2.2.2.2.1,p5.1.2.2.2.2.2.1,p5.1.2.2.2.2.2.2.1,()),(p5.2.1,((List.take p5.1.2.2.1.toNat p5.2.2.1)++([p5.1.2.2.2.1]:List Bool)),()))) none) none) λp6=>(some p6))) none))) λp7=>(some (Sum.inl (((),(),p7.1.2.2.1,p7.1.2.2.2.1,(w64 (p7.1.2.2.2.2.1+(1:Int))),()),p7.2)))) (some (Sum.inr (((),()),(p.2.2.1,())))))
noncomputable def L15_0 (p:T15_0):Option R15_0:=loopOf B15_0 p
noncomputable def H15_0:HT:=(.two .leaf (.two .leaf (.two (.join [(.normal,⟨[(3,(.ptr 0 0)),(5,(.own 1)),(11,(.sl Q0)),(12,(.i .i64)),(13,(.i .i64))],[(0,(.vars Q15)),(1,(.data .bool))],2⟩)] (.one (.two (.join [(.normal,⟨[(3,(.ptr 0 0)),(5,(.own 1)),(7,(.ptr 2 0)),(11,(.sl Q0)),(12,(.i .i64)),(13,(.i .i64))],[(0,(.vars Q15)),(1,(.data .bool)),(2,Q40)],3⟩)] .leaf) (.two (.join [(.normal,⟨[(3,(.ptr 0 0)),(5,(.own 1)),(7,(.ptr 2 0)),(8,(.i .i64)),(11,(.sl Q0)),(12,(.i .i64)),(13,(.i .i64))],[(0,(.vars Q15)),(1,(.data .bool)),(2,Q40)],3⟩)] .leaf) (.two .leaf (.two .leaf (.two (.join [(.normal,⟨[(3,(.ptr 0 0)),(5,(.own 1)),(8,(.i .i64)),(10,.b),(11,(.sl Q0)),(12,(.i .i64)),(13,(.i .i64))],[(0,(.vars Q15)),(1,(.data .bool))],2⟩)] .leaf) (.join [(.normal,⟨[(3,(.ptr 0 0)),(5,(.own 1)),(11,(.sl Q0)),(12,(.i .i64)),(13,(.i .i64))],[(0,(.vars Q15)),(1,(.data .bool))],2⟩)] .leaf)))))))) .leaf)))
noncomputable def F15 (p:(Q44×Q43×Unit)×Unit):Option Q31:=(Option.bind (Option.bind (L15_0 (((),(),p.1.1,(p.1.1.length:Int),(0:Int),()),(p.1.2.1,([]:List Bool),()))) λp8=>(some (((),()),p8.2))) λp9=>(cond (decide ((0:Int)<(p9.2.1.length:Int))) (some ((List.getD p9.2.1 0 false),())) none))
noncomputable def O15:Orc:=⟨(.cons (.sl Q0) (.cons (.agg Q15) .nil)),[],.b,[],F15⟩
noncomputable def H15:HT:=(.two .leaf (.two .leaf (.two (.join [(.normal,⟨[(5,(.own 0))],[(0,(.data .bool))],1⟩)] (.two .leaf (.one (.loop S15_0 U15_0 L15_0 H15_0)))) .leaf)))
noncomputable def X15:List (FuncId×Orc):=[(27,O27),(28,O28)]
theorem round15_0 (p):round Tryz.prog (CX X15 [] [] []) (MX X15 []) 0 68 (subc (bodyOf Tryz.f15) [true,true,false,true,false,false]) H15_0 S15_0 U15_0 p=B15_0 p:=by kernel_rfl
theorem run15 (p):evTop Tryz.prog (CX X15 [] [] []) (MX X15 []) Tryz.f15 H15 O15 p=F15 p:=by kernel_rfl
theorem ok15:O15.OK Tryz.prog 15:=okk run15 Tryz.func15 Tryz.call15 (ls:=[⟨subc (bodyOf Tryz.f15) [true,true,false,true,false,false],H15_0,S15_0,U15_0,L15_0⟩]) ⟨LoopRec.of rfl round15_0,trivial⟩ (hX:=⟨ok27,⟨ok28,trivial⟩⟩)
noncomputable def F6 (p:Q62×Unit):Option Q54:=(Option.bind (F14 ((p.1.1,()),())) λr1=>(cond (!(decide (r1.1=(0:Int)))) (some ((false,r1.1,()),())) (Option.bind (F16 ((p.1.2.1,()),())) λr2=>(Option.bind (F15 ((p.1.1,r2.1,()),())) λr3=>(some ((r3.1,(0:Int),()),()))))))
noncomputable def O6:Orc:=⟨Q58,[],(.tup (.cons .b Q10)),[],F6⟩
noncomputable def H6:HT:=.leaf
noncomputable def X6:List (FuncId×Orc):=[(14,O14),(15,O15),(16,O16)]
theorem run6 (p):evTop Tryz.prog (CX X6 [] [] []) (MX X6 []) Tryz.f6 H6 O6 p=F6 p:=by kernel_rfl
theorem ok6:O6.OK Tryz.prog 6:=ok0 run6 Tryz.func6 Tryz.call6 (hX:=⟨ok14,⟨ok15,⟨ok16,trivial⟩⟩⟩)
noncomputable def F65c902 (p:Q39×Q17):Option Q76:=(Option.bind (F64 ((p.1.2.1,()),())) λr1=>(match r1.1 with | Sum.inl _r1a=>(Option.bind (F66 (((),(40:UInt8),()),(p.2.1,p.2.2.1,()))) λr2=>(cond r2.1 none (Option.bind (F111 (((),()),(r2.2.1,r2.2.2.1,()))) λr3=>(match r3.1 with | Sum.inl r3a=>(Option.bind (F88 ((r3a,()),())) λr4=>(Option.bind (F67 ((),())) λr5=>(Option.bind (F114 ((r4.1,([117,110]:List UInt8),()),())) λr6=>(Option.bind (F113 ((r5.2.1,r6.1,()),())) λr7=>(Option.bind (cond (decide (r4.1=([110,111,116]:List UInt8))) (Option.bind (F115 (((),()),(r3.2.1,r3.2.2.1,()))) λr8=>(match r8.1 with | Sum.inl _r8a=>none | Sum.inr r8b=>(some (Sum.inr ((r8b,()),(r8.2.1,r8.2.2.1,())))))) (cond (decide (r4.1=([111,114]:List UInt8))) (Option.bind (F115 (((),()),(r3.2.1,r3.2.2.1,()))) λr9=>(match r9.1 with | Sum.inl _r9a=>none | Sum.inr r9b=>(some (Sum.inr ((r9b,()),(r9.2.1,r9.2.2.1,())))))) (cond (decide (r4.1=([97,108,108]:List UInt8))) (some (Sum.inl (((),(),()),(r3.2.1,r3.2.2.1,((1:Int),(0:UInt8),(0:Int),([]:List UInt8),(0:Int),(0:Int),(0:Int),([]:List UInt8),([]:List UInt8),()),())))) (cond (decide ((0:Int)<=r7.1)) (cond (decide ((0:Int)<=r7.1)) (cond (Go.Lib.hasPrefix r4.1 ([117,110]:List UInt8)) (some (Sum.inl (((),(),()),(r3.2.1,r3.2.2.1,((3:Int),(UInt8.ofNat (UInt8.toNat (1:UInt8)*2^(min r7.1.toNat 8))),(0:Int),([]:List UInt8),(0:Int),(0:Int),(0:Int),([]:List UInt8),([]:List UInt8),()),())))) (some (Sum.inl (((),(),()),(r3.2.1,r3.2.2.1,((2:Int),(UInt8.ofNat (UInt8.toNat (1:UInt8)*2^(min r7.1.toNat 8))),(0:Int),([]:List UInt8),(0:Int),(0:Int),(0:Int),([]:List UInt8),([]:List UInt8),()),()))))) none) (Option.bind (F42 ((r3a,()),())) λr10=>(cond r10.1 (some (Sum.inl (((),(),()),(r3.2.1,r3.2.2.1,((6:Int),(0:UInt8),(0:Int),r3a,(0:Int),(0:Int),(0:Int),([]:List UInt8),([]:List UInt8),()),())))) (Option.bind (F115 (((),()),(r3.2.1,r3.2.2.1,()))) λr11=>(match r11.1 with | Sum.inl _r11a=>(Option.bind (F116 (((),r4.1,()),(r11.2.1,r11.2.2.1,()))) λr12=>(match r12.1 with | Sum.inl r12a=>(some (Sum.inl (((),(),()),(r12.2.1,r12.2.2.1,r12a,())))) | Sum.inr r12b=>(some (Sum.inr ((r12b,()),(r12.2.1,r12.2.2.1,())))))) | Sum.inr r11b=>(some (Sum.inr ((r11b,()),(r11.2.1,r11.2.2.1,())))))))))))) λp13=>(match p13 with | Sum.inl p14=>(Option.bind (cond (bytesOK ((List.length p14.2.2.1)+(List.length ([(p14.2.2.2.1.1,(p14.2.2.2.1.2.1,(p14.2.2.2.1.2.2.1,(p14.2.2.2.1.2.2.2.1,((p14.2.2.2.1.2.2.2.2.1,(p14.2.2.2.1.2.2.2.2.2.1,(p14.2.2.2.1.2.2.2.2.2.2.1,()))),(p14.2.2.2.1.2.2.2.2.2.2.2.1,(p14.2.2.2.1.2.2.2.2.2.2.2.2.1,())))))))]:List Q1))) 96) (some (((),()),(p14.2.1,(p14.2.2.1++([(p14.2.2.2.1.1,(p14.2.2.2.1.2.1,(p14.2.2.2.1.2.2.1,(p14.2.2.2.1.2.2.2.1,((p14.2.2.2.1.2.2.2.2.1,(p14.2.2.2.1.2.2.2.2.2.1,(p14.2.2.2.1.2.2.2.2.2.2.1,()))),(p14.2.2.2.1.2.2.2.2.2.2.2.1,(p14.2.2.2.1.2.2.2.2.2.2.2.2.1,())))))))]:List Q1)),()))) none) λp15=>(some ((Sum.inl ()),p15.2))) | Sum.inr q14=>(some ((Sum.inr q14.1.1),q14.2)))))))) | Sum.inr r3b=>(some ((Sum.inr r3b),(r3.2.1,r3.2.2.1,()))))))) | Sum.inr r1b=>(some ((Sum.inr r1b),(p.2.1,p.2.2.1,())))))
noncomputable def O65c902:Orc:=⟨(.cons (.ptr 0 0) Q10),[(0,Q14),(1,Q34)],Q63,[(0,Q14),(1,Q34)],F65c902⟩
noncomputable def H65c902:HT:=(.two .leaf (.two .leaf (.two .leaf (.two .leaf (.two .leaf (.two .leaf (.two .leaf (.two (.join [(.normal,⟨[(0,(.ptr 0 0)),(5,(.ptr 2 0))],[(0,Q14),(1,Q34),(2,Q40)],3⟩),(.pan,⟨[(0,Q47)],[(0,Q14),(1,Q34)],2⟩)] .leaf) (.join [(.normal,⟨[(0,(.ptr 0 0))],[(0,Q14),(1,Q34)],2⟩)] .leaf)))))))))
noncomputable def X65c902:List (FuncId×Orc):=[(42,O42),(64,O64),(66,O66),(67,O67),(88,O88),(111,O111),(113,O113),(114,O114),(115,O115),(116,O116)]
noncomputable def Z65c902:List (FuncId×Deed):=[(112,(zPv pHasPrefix))]
theorem run65c902 (p):evTop Tryz.prog (CX X65c902 [] Z65c902 []) (MX X65c902 []) Tryz.f65 H65c902 O65c902 p=F65c902 p:=by kernel_rfl
theorem ok65c902:O65c902.OK Tryz.prog 65:=ok0 run65c902 Tryz.func65 Tryz.call65 (hX:=⟨ok42,⟨ok64,⟨ok66,⟨ok67,⟨ok88,⟨ok111,⟨ok113,⟨ok114,⟨ok115,⟨ok116,trivial⟩⟩⟩⟩⟩⟩⟩⟩⟩⟩) (hZ:=⟨zHasPrefix112,trivial⟩)
noncomputable def F65c901 (p:Q39×Q17):Option Q76:=(Option.bind (F64 ((p.1.2.1,()),())) λr1=>(match r1.1 with | Sum.inl _r1a=>(Option.bind (F66 (((),(40:UInt8),()),(p.2.1,p.2.2.1,()))) λr2=>(cond r2.1 none (Option.bind (F111 (((),()),(r2.2.1,r2.2.2.1,()))) λr3=>(match r3.1 with | Sum.inl r3a=>(Option.bind (F88 ((r3a,()),())) λr4=>(Option.bind (F67 ((),())) λr5=>(Option.bind (F114 ((r4.1,([117,110]:List UInt8),()),())) λr6=>(Option.bind (F113 ((r5.2.1,r6.1,()),())) λr7=>(Option.bind (cond (decide (r4.1=([110,111,116]:List UInt8))) (Option.bind (F115 (((),()),(r3.2.1,r3.2.2.1,()))) λr8=>(match r8.1 with | Sum.inl _r8a=>(Option.bind (F65c902 (((),(w64 (p.1.2.1+(1:Int))),()),(r8.2.1,r8.2.2.1,()))) λr9=>(match r9.1 with | Sum.inl _r9a=>(some (Sum.inl (((),(),()),(r9.2.1,r9.2.2.1,((14:Int),(0:UInt8),(0:Int),([]:List UInt8),(0:Int),(0:Int),(0:Int),([]:List UInt8),([]:List UInt8),()),())))) | Sum.inr r9b=>(some (Sum.inr ((r9b,()),(r9.2.1,r9.2.2.1,())))))) | Sum.inr r8b=>(some (Sum.inr ((r8b,()),(r8.2.1,r8.2.2.1,())))))) (cond (decide (r4.1=([111,114]:List UInt8))) (Option.bind (F115 (((),()),(r3.2.1,r3.2.2.1,()))) λr10=>(match r10.1 with | Sum.inl _r10a=>(Option.bind (F65c902 (((),(w64 (p.1.2.1+(1:Int))),()),(r10.2.1,r10.2.2.1,()))) λr11=>(match r11.1 with | Sum.inl _r11a=>(Option.bind (F115 (((),()),(r11.2.1,r11.2.2.1,()))) λr12=>(match r12.1 with | Sum.inl _r12a=>(Option.bind (F65c902 (((),(w64 (p.1.2.1+(1:Int))),()),(r12.2.1,r12.2.2.1,()))) λr13=>(match r13.1 with | Sum.inl _r13a=>(some (Sum.inl (((),(),()),(r13.2.1,r13.2.2.1,((15:Int),(0:UInt8),(0:Int),([]:List UInt8),(0:Int),(0:Int),(0:Int),([]:List UInt8),([]:List UInt8),()),())))) | Sum.inr r13b=>(some (Sum.inr ((r13b,()),(r13.2.1,r13.2.2.1,())))))) | Sum.inr r12b=>(some (Sum.inr ((r12b,()),(r12.2.1,r12.2.2.1,())))))) | Sum.inr r11b=>(some (Sum.inr ((r11b,()),(r11.2.1,r11.2.2.1,())))))) | Sum.inr r10b=>(some (Sum.inr ((r10b,()),(r10.2.1,r10.2.2.1,())))))) (cond (decide (r4.1=([97,108,108]:List UInt8))) (some (Sum.inl (((),(),()),(r3.2.1,r3.2.2.1,((1:Int),(0:UInt8),(0:Int),([]:List UInt8),(0:Int),(0:Int),(0:Int),([]:List UInt8),([]:List UInt8),()),())))) (cond (decide ((0:Int)<=r7.1)) (cond (decide ((0:Int)<=r7.1)) (cond (Go.Lib.hasPrefix r4.1 ([117,110]:List UInt8)) (some (Sum.inl (((),(),()),(r3.2.1,r3.2.2.1,((3:Int),(UInt8.ofNat (UInt8.toNat (1:UInt8)*2^(min r7.1.toNat 8))),(0:Int),([]:List UInt8),(0:Int),(0:Int),(0:Int),([]:List UInt8),([]:List UInt8),()),())))) (some (Sum.inl (((),(),()),(r3.2.1,r3.2.2.1,((2:Int),(UInt8.ofNat (UInt8.toNat (1:UInt8)*2^(min r7.1.toNat 8))),(0:Int),([]:List UInt8),(0:Int),(0:Int),(0:Int),([]:List UInt8),([]:List UInt8),()),()))))) none) (Option.bind (F42 ((r3a,()),())) λr14=>(cond r14.1 (some (Sum.inl (((),(),()),(r3.2.1,r3.2.2.1,((6:Int),(0:UInt8),(0:Int),r3a,(0:Int),(0:Int),(0:Int),([]:List UInt8),([]:List UInt8),()),())))) (Option.bind (F115 (((),()),(r3.2.1,r3.2.2.1,()))) λr15=>(match r15.1 with | Sum.inl _r15a=>(Option.bind (F116 (((),r4.1,()),(r15.2.1,r15.2.2.1,()))) λr16=>(match r16.1 with | Sum.inl r16a=>(some (Sum.inl (((),(),()),(r16.2.1,r16.2.2.1,r16a,())))) | Sum.inr r16b=>(some (Sum.inr ((r16b,()),(r16.2.1,r16.2.2.1,())))))) | Sum.inr r15b=>(some (Sum.inr ((r15b,()),(r15.2.1,r15.2.2.1,())))))))))))) λp17=>(match p17 with | Sum.inl p18=>(Option.bind (cond (bytesOK ((List.length p18.2.2.1)+(List.length ([(p18.2.2.2.1.1,(p18.2.2.2.1.2.1,(p18.2.2.2.1.2.2.1,(p18.2.2.2.1.2.2.2.1,((p18.2.2.2.1.2.2.2.2.1,(p18.2.2.2.1.2.2.2.2.2.1,(p18.2.2.2.1.2.2.2.2.2.2.1,()))),(p18.2.2.2.1.2.2.2.2.2.2.2.1,(p18.2.2.2.1.2.2.2.2.2.2.2.2.1,())))))))]:List Q1))) 96) (some (((),()),(p18.2.1,(p18.2.2.1++([(p18.2.2.2.1.1,(p18.2.2.2.1.2.1,(p18.2.2.2.1.2.2.1,(p18.2.2.2.1.2.2.2.1,((p18.2.2.2.1.2.2.2.2.1,(p18.2.2.2.1.2.2.2.2.2.1,(p18.2.2.2.1.2.2.2.2.2.2.1,()))),(p18.2.2.2.1.2.2.2.2.2.2.2.1,(p18.2.2.2.1.2.2.2.2.2.2.2.2.1,())))))))]:List Q1)),()))) none) λp19=>(some ((Sum.inl ()),p19.2))) | Sum.inr q18=>(some ((Sum.inr q18.1.1),q18.2)))))))) | Sum.inr r3b=>(some ((Sum.inr r3b),(r3.2.1,r3.2.2.1,()))))))) | Sum.inr r1b=>(some ((Sum.inr r1b),(p.2.1,p.2.2.1,())))))
noncomputable def O65c901:Orc:=⟨(.cons (.ptr 0 0) Q10),[(0,Q14),(1,Q34)],Q63,[(0,Q14),(1,Q34)],F65c901⟩
noncomputable def H65c901:HT:=(.two .leaf (.two .leaf (.two .leaf (.two .leaf (.two .leaf (.two .leaf (.two .leaf (.two (.join [(.normal,⟨[(0,(.ptr 0 0)),(5,(.ptr 2 0))],[(0,Q14),(1,Q34),(2,Q40)],3⟩),(.pan,⟨[(0,Q47)],[(0,Q14),(1,Q34)],2⟩)] .leaf) (.join [(.normal,⟨[(0,(.ptr 0 0))],[(0,Q14),(1,Q34)],2⟩)] .leaf)))))))))
noncomputable def X65c901:List (FuncId×Orc):=[(42,O42),(64,O64),(65,O65c902),(66,O66),(67,O67),(88,O88),(111,O111),(113,O113),(114,O114),(115,O115),(116,O116)]
noncomputable def Z65c901:List (FuncId×Deed):=[(112,(zPv pHasPrefix))]
theorem run65c901 (p):evTop Tryz.prog (CX X65c901 [] Z65c901 []) (MX X65c901 []) Tryz.f65 H65c901 O65c901 p=F65c901 p:=by kernel_rfl
theorem ok65c901:O65c901.OK Tryz.prog 65:=ok0 run65c901 Tryz.func65 Tryz.call65 (hX:=⟨ok42,⟨ok64,⟨ok65c902,⟨ok66,⟨ok67,⟨ok88,⟨ok111,⟨ok113,⟨ok114,⟨ok115,⟨ok116,trivial⟩⟩⟩⟩⟩⟩⟩⟩⟩⟩⟩) (hZ:=⟨zHasPrefix112,trivial⟩)
noncomputable def S33c901_0:Shape:=⟨[(0,(.ptr 0 0)),(1,(.i .i64))],[(0,Q14),(1,Q34)],2⟩
noncomputable def U33c901_0:Outs:=[((.exit 0),⟨[(0,(.ptr 0 0))],[(0,Q14),(1,Q34)],2⟩),(.pan,⟨[(0,Q47)],[(0,Q14),(1,Q34)],2⟩)]
abbrev T33c901_0:Type:=(Q39×Q17)
abbrev R33c901_0:Type:=((Q23×Q17)⊕(Q45×Q17))
noncomputable def B33c901_0 (p:T33c901_0):Option (T33c901_0⊕R33c901_0):=(Option.bind (F66 (((),(32:UInt8),()),p.2)) λr3=>(cond r3.1 (Option.bind (F65c901 (p.1,(r3.2.1,r3.2.2.1,()))) λr4=>(match r4.1 with | Sum.inl _r4a=>(Option.bind (cond (bytesOK ((List.length r4.2.2.1)+(List.length ([((16:Int),((0:UInt8),((0:Int),(([]:List UInt8),(((0:Int),((0:Int),((0:Int),()))),(([]:List UInt8),(([]:List UInt8),())))))))]:List Q1))) 96) (some (p.1,(r4.2.1,(r4.2.2.1++([((16:Int),((0:UInt8),((0:Int),(([]:List UInt8),(((0:Int),((0:Int),((0:Int),()))),(([]:List UInt8),(([]:List UInt8),())))))))]:List Q1)),()))) none) λp5=>(some (Sum.inl p5))) | Sum.inr r4b=>(some (Sum.inr (Sum.inr ((r4b,()),(r4.2.1,r4.2.2.1,()))))))) (some (Sum.inr (Sum.inl (((),()),(r3.2.1,r3.2.2.1,())))))))
noncomputable def L33c901_0 (p:T33c901_0):Option R33c901_0:=loopOf B33c901_0 p
noncomputable def H33c901_0:HT:=(.two .leaf (.one (.two .leaf (.join [(.normal,⟨[(0,(.ptr 0 0)),(1,(.i .i64))],[(0,Q14),(1,Q34)],2⟩)] .leaf))))
noncomputable def F33c901 (p:Q39×Q17):Option Q76:=(Option.bind (F64 ((p.1.2.1,()),())) λr1=>(match r1.1 with | Sum.inl _r1a=>(Option.bind (F65c901 (((),p.1.2.1,()),(p.2.1,p.2.2.1,()))) λr2=>(match r2.1 with | Sum.inl _r2a=>(Option.bind (L33c901_0 (((),p.1.2.1,()),(r2.2.1,r2.2.2.1,()))) λp6=>(match p6 with | Sum.inl p7=>(some ((Sum.inl ()),p7.2)) | Sum.inr q7=>(some ((Sum.inr q7.1.1),q7.2)))) | Sum.inr r2b=>(some ((Sum.inr r2b),(r2.2.1,r2.2.2.1,()))))) | Sum.inr r1b=>(some ((Sum.inr r1b),(p.2.1,p.2.2.1,())))))
noncomputable def O33c901:Orc:=⟨(.cons (.ptr 0 0) Q10),[(0,Q14),(1,Q34)],Q63,[(0,Q14),(1,Q34)],F33c901⟩
noncomputable def H33c901:HT:=(.two .leaf (.two .leaf (.one (.loop S33c901_0 U33c901_0 L33c901_0 H33c901_0))))
noncomputable def X33c901:List (FuncId×Orc):=[(64,O64),(65,O65c901),(66,O66)]
theorem round33c901_0 (p):round Tryz.prog (CX X33c901 [] [] []) (MX X33c901 []) 2 24 (subc (bodyOf Tryz.f33) [true,true,false,false]) H33c901_0 S33c901_0 U33c901_0 p=B33c901_0 p:=by kernel_rfl
theorem run33c901 (p):evTop Tryz.prog (CX X33c901 [] [] []) (MX X33c901 []) Tryz.f33 H33c901 O33c901 p=F33c901 p:=by kernel_rfl
theorem ok33c901:O33c901.OK Tryz.prog 33:=okk run33c901 Tryz.func33 Tryz.call33 (ls:=[⟨subc (bodyOf Tryz.f33) [true,true,false,false],H33c901_0,S33c901_0,U33c901_0,L33c901_0⟩]) ⟨LoopRec.of rfl round33c901_0,trivial⟩ (hX:=⟨ok64,⟨ok65c901,⟨ok66,trivial⟩⟩⟩)
noncomputable def F65c900 (p:Q39×Q17):Option Q76:=(Option.bind (F64 ((p.1.2.1,()),())) λr1=>(match r1.1 with | Sum.inl _r1a=>(Option.bind (F66 (((),(40:UInt8),()),(p.2.1,p.2.2.1,()))) λr2=>(cond r2.1 (Option.bind (F33c901 (((),(w64 (p.1.2.1+(1:Int))),()),(r2.2.1,r2.2.2.1,()))) λr3=>(match r3.1 with | Sum.inl _r3a=>(Option.bind (F66 (((),(41:UInt8),()),(r3.2.1,r3.2.2.1,()))) λr4=>(Option.bind (F34 ((r4.1,()),())) λr5=>(match r5.1 with | Sum.inl _r5a=>(some ((Sum.inl ()),(r4.2.1,r4.2.2.1,()))) | Sum.inr r5b=>(some ((Sum.inr r5b),(r4.2.1,r4.2.2.1,())))))) | Sum.inr r3b=>(some ((Sum.inr r3b),(r3.2.1,r3.2.2.1,()))))) (Option.bind (F111 (((),()),(r2.2.1,r2.2.2.1,()))) λr6=>(match r6.1 with | Sum.inl r6a=>(Option.bind (F88 ((r6a,()),())) λr7=>(Option.bind (F67 ((),())) λr8=>(Option.bind (F114 ((r7.1,([117,110]:List UInt8),()),())) λr9=>(Option.bind (F113 ((r8.2.1,r9.1,()),())) λr10=>(Option.bind (cond (decide (r7.1=([110,111,116]:List UInt8))) (Option.bind (F115 (((),()),(r6.2.1,r6.2.2.1,()))) λr11=>(match r11.1 with | Sum.inl _r11a=>none | Sum.inr r11b=>(some (Sum.inr ((r11b,()),(r11.2.1,r11.2.2.1,())))))) (cond (decide (r7.1=([111,114]:List UInt8))) (Option.bind (F115 (((),()),(r6.2.1,r6.2.2.1,()))) λr12=>(match r12.1 with | Sum.inl _r12a=>none | Sum.inr r12b=>(some (Sum.inr ((r12b,()),(r12.2.1,r12.2.2.1,())))))) (cond (decide (r7.1=([97,108,108]:List UInt8))) (some (Sum.inl (((),(),()),(r6.2.1,r6.2.2.1,((1:Int),(0:UInt8),(0:Int),([]:List UInt8),(0:Int),(0:Int),(0:Int),([]:List UInt8),([]:List UInt8),()),())))) (cond (decide ((0:Int)<=r10.1)) (cond (decide ((0:Int)<=r10.1)) (cond (Go.Lib.hasPrefix r7.1 ([117,110]:List UInt8)) (some (Sum.inl (((),(),()),(r6.2.1,r6.2.2.1,((3:Int),(UInt8.ofNat (UInt8.toNat (1:UInt8)*2^(min r10.1.toNat 8))),(0:Int),([]:List UInt8),(0:Int),(0:Int),(0:Int),([]:List UInt8),([]:List UInt8),()),())))) (some (Sum.inl (((),(),()),(r6.2.1,r6.2.2.1,((2:Int),(UInt8.ofNat (UInt8.toNat (1:UInt8)*2^(min r10.1.toNat 8))),(0:Int),([]:List UInt8),(0:Int),(0:Int),(0:Int),([]:List UInt8),([]:List UInt8),()),()))))) none) (Option.bind (F42 ((r6a,()),())) λr13=>(cond r13.1 (some (Sum.inl (((),(),()),(r6.2.1,r6.2.2.1,((6:Int),(0:UInt8),(0:Int),r6a,(0:Int),(0:Int),(0:Int),([]:List UInt8),([]:List UInt8),()),())))) (Option.bind (F115 (((),()),(r6.2.1,r6.2.2.1,()))) λr14=>(match r14.1 with | Sum.inl _r14a=>(Option.bind (F116 (((),r7.1,()),(r14.2.1,r14.2.2.1,()))) λr15=>(match r15.1 with | Sum.inl r15a=>(some (Sum.inl (((),(),()),(r15.2.1,r15.2.2.1,r15a,())))) | Sum.inr r15b=>(some (Sum.inr ((r15b,()),(r15.2.1,r15.2.2.1,())))))) | Sum.inr r14b=>(some (Sum.inr ((r14b,()),(r14.2.1,r14.2.2.1,())))))))))))) λp16=>(match p16 with | Sum.inl p17=>(Option.bind (cond (bytesOK ((List.length p17.2.2.1)+(List.length ([(p17.2.2.2.1.1,(p17.2.2.2.1.2.1,(p17.2.2.2.1.2.2.1,(p17.2.2.2.1.2.2.2.1,((p17.2.2.2.1.2.2.2.2.1,(p17.2.2.2.1.2.2.2.2.2.1,(p17.2.2.2.1.2.2.2.2.2.2.1,()))),(p17.2.2.2.1.2.2.2.2.2.2.2.1,(p17.2.2.2.1.2.2.2.2.2.2.2.2.1,())))))))]:List Q1))) 96) (some (((),()),(p17.2.1,(p17.2.2.1++([(p17.2.2.2.1.1,(p17.2.2.2.1.2.1,(p17.2.2.2.1.2.2.1,(p17.2.2.2.1.2.2.2.1,((p17.2.2.2.1.2.2.2.2.1,(p17.2.2.2.1.2.2.2.2.2.1,(p17.2.2.2.1.2.2.2.2.2.2.1,()))),(p17.2.2.2.1.2.2.2.2.2.2.2.1,(p17.2.2.2.1.2.2.2.2.2.2.2.2.1,())))))))]:List Q1)),()))) none) λp18=>(some ((Sum.inl ()),p18.2))) | Sum.inr q17=>(some ((Sum.inr q17.1.1),q17.2)))))))) | Sum.inr r6b=>(some ((Sum.inr r6b),(r6.2.1,r6.2.2.1,()))))))) | Sum.inr r1b=>(some ((Sum.inr r1b),(p.2.1,p.2.2.1,())))))
noncomputable def O65c900:Orc:=⟨(.cons (.ptr 0 0) Q10),[(0,Q14),(1,Q34)],Q63,[(0,Q14),(1,Q34)],F65c900⟩
noncomputable def H65c900:HT:=(.two .leaf (.two .leaf (.two .leaf (.two .leaf (.two .leaf (.two .leaf (.two .leaf (.two (.join [(.normal,⟨[(0,(.ptr 0 0)),(5,(.ptr 2 0))],[(0,Q14),(1,Q34),(2,Q40)],3⟩),(.pan,⟨[(0,Q47)],[(0,Q14),(1,Q34)],2⟩)] .leaf) (.join [(.normal,⟨[(0,(.ptr 0 0))],[(0,Q14),(1,Q34)],2⟩)] .leaf)))))))))
noncomputable def X65c900:List (FuncId×Orc):=[(33,O33c901),(34,O34),(42,O42),(64,O64),(66,O66),(67,O67),(88,O88),(111,O111),(113,O113),(114,O114),(115,O115),(116,O116)]
noncomputable def Z65c900:List (FuncId×Deed):=[(112,(zPv pHasPrefix))]
theorem run65c900 (p):evTop Tryz.prog (CX X65c900 [] Z65c900 []) (MX X65c900 []) Tryz.f65 H65c900 O65c900 p=F65c900 p:=by kernel_rfl
theorem ok65c900:O65c900.OK Tryz.prog 65:=ok0 run65c900 Tryz.func65 Tryz.call65 (hX:=⟨ok33c901,⟨ok34,⟨ok42,⟨ok64,⟨ok66,⟨ok67,⟨ok88,⟨ok111,⟨ok113,⟨ok114,⟨ok115,⟨ok116,trivial⟩⟩⟩⟩⟩⟩⟩⟩⟩⟩⟩⟩) (hZ:=⟨zHasPrefix112,trivial⟩)
noncomputable def S33c900_0:Shape:=⟨[(0,(.ptr 0 0)),(1,(.i .i64))],[(0,Q14),(1,Q34)],2⟩
noncomputable def U33c900_0:Outs:=[((.exit 0),⟨[(0,(.ptr 0 0))],[(0,Q14),(1,Q34)],2⟩),(.pan,⟨[(0,Q47)],[(0,Q14),(1,Q34)],2⟩)]
abbrev T33c900_0:Type:=(Q39×Q17)
abbrev R33c900_0:Type:=((Q23×Q17)⊕(Q45×Q17))
noncomputable def B33c900_0 (p:T33c900_0):Option (T33c900_0⊕R33c900_0):=(Option.bind (F66 (((),(32:UInt8),()),p.2)) λr3=>(cond r3.1 (Option.bind (F65c900 (p.1,(r3.2.1,r3.2.2.1,()))) λr4=>(match r4.1 with | Sum.inl _r4a=>(Option.bind (cond (bytesOK ((List.length r4.2.2.1)+(List.length ([((16:Int),((0:UInt8),((0:Int),(([]:List UInt8),(((0:Int),((0:Int),((0:Int),()))),(([]:List UInt8),(([]:List UInt8),())))))))]:List Q1))) 96) (some (p.1,(r4.2.1,(r4.2.2.1++([((16:Int),((0:UInt8),((0:Int),(([]:List UInt8),(((0:Int),((0:Int),((0:Int),()))),(([]:List UInt8),(([]:List UInt8),())))))))]:List Q1)),()))) none) λp5=>(some (Sum.inl p5))) | Sum.inr r4b=>(some (Sum.inr (Sum.inr ((r4b,()),(r4.2.1,r4.2.2.1,()))))))) (some (Sum.inr (Sum.inl (((),()),(r3.2.1,r3.2.2.1,())))))))
noncomputable def L33c900_0 (p:T33c900_0):Option R33c900_0:=loopOf B33c900_0 p
noncomputable def H33c900_0:HT:=(.two .leaf (.one (.two .leaf (.join [(.normal,⟨[(0,(.ptr 0 0)),(1,(.i .i64))],[(0,Q14),(1,Q34)],2⟩)] .leaf))))
noncomputable def F33c900 (p:Q39×Q17):Option Q76:=(Option.bind (F64 ((p.1.2.1,()),())) λr1=>(match r1.1 with | Sum.inl _r1a=>(Option.bind (F65c900 (((),p.1.2.1,()),(p.2.1,p.2.2.1,()))) λr2=>(match r2.1 with | Sum.inl _r2a=>(Option.bind (L33c900_0 (((),p.1.2.1,()),(r2.2.1,r2.2.2.1,()))) λp6=>(match p6 with | Sum.inl p7=>(some ((Sum.inl ()),p7.2)) | Sum.inr q7=>(some ((Sum.inr q7.1.1),q7.2)))) | Sum.inr r2b=>(some ((Sum.inr r2b),(r2.2.1,r2.2.2.1,()))))) | Sum.inr r1b=>(some ((Sum.inr r1b),(p.2.1,p.2.2.1,())))))
noncomputable def O33c900:Orc:=⟨(.cons (.ptr 0 0) Q10),[(0,Q14),(1,Q34)],Q63,[(0,Q14),(1,Q34)],F33c900⟩
noncomputable def H33c900:HT:=(.two .leaf (.two .leaf (.one (.loop S33c900_0 U33c900_0 L33c900_0 H33c900_0))))
noncomputable def X33c900:List (FuncId×Orc):=[(64,O64),(65,O65c900),(66,O66)]
theorem round33c900_0 (p):round Tryz.prog (CX X33c900 [] [] []) (MX X33c900 []) 2 24 (subc (bodyOf Tryz.f33) [true,true,false,false]) H33c900_0 S33c900_0 U33c900_0 p=B33c900_0 p:=by kernel_rfl
theorem run33c900 (p):evTop Tryz.prog (CX X33c900 [] [] []) (MX X33c900 []) Tryz.f33 H33c900 O33c900 p=F33c900 p:=by kernel_rfl
theorem ok33c900:O33c900.OK Tryz.prog 33:=okk run33c900 Tryz.func33 Tryz.call33 (ls:=[⟨subc (bodyOf Tryz.f33) [true,true,false,false],H33c900_0,S33c900_0,U33c900_0,L33c900_0⟩]) ⟨LoopRec.of rfl round33c900_0,trivial⟩ (hX:=⟨ok64,⟨ok65c900,⟨ok66,trivial⟩⟩⟩)
end Go.Qy
namespace Go.Qy
open Go Go.Proofs
set_option maxRecDepth 100000
theorem tm32 (p q:Option Addr) (x:Value):(#[Value.pointer p,Value.pointer q]++((Array.replicate 17 undef).setIfInBounds 3 x).setIfInBounds 0 x) =
  #[.pointer p,.pointer q,x,undef,undef,x,undef,undef,undef,undef,undef,undef,undef,undef,undef,undef,undef,undef,undef]:=by rfl
theorem idle32 (p q:Addr) (w:World) :
  CallsD Tryz.prog 32 #[.pointer (some p),.pointer (some q)] .returning w λe u' w'=>e=.returned (.tuple #[])/\u'=.returning/\w'=w.alloc (.cells #[.int .i64 0] 72):=by
 have hta:∀ w:World,(Instr.typeAssert .nilIface 20 72 true).run Tryz.prog w=.ok (.tuple #[.agg #[.int .i64 0],.bool false]) w:=λw=>by kernel_rfl
 refine callsD_of_wpS Tryz.func32 rfl λc₀ cs hu=>?_
 apply wpS_seq
 apply wpS_region
 simp [wpOpsS,go_sem,recoverD,hu,Tryz.ntmps32,Exit.thenS]
 refine wpS_of_wp ?_
 rw [tm32]
 go_wp2
 cases c₀
 simp_all [bodyPostS,results,Tryz.results32]
def w18 (w:World) (v:Value):World:=((w.alloc (.cells #[.slice none 0 0] 22)).alloc (.cells #[.int .i64 0] 28)).alloc (.cells #[v,.slice none 0 0] 76)
def R33 (w:World) (v:Value) (G:Value->World->Prop) (e:Ending) (w':World):Prop :=
 w.heap.size+3<=w'.heap.size/\w'.heap[w.heap.size]?=(w18 w v).heap[w.heap.size]?/\w'.heap[w.heap.size+1]?=(w18 w v).heap[w.heap.size+1]? /\
 e=.returned (.tuple #[])/\∃ a2 n2 c2,w'.cell? ⟨w.heap.size+2,0,none⟩=some (.string ⟨#[]⟩)/\w'.cell? ⟨w.heap.size+2,1,none⟩=some (.slice a2 n2 c2)/\G (.slice a2 n2 c2) w'
def w19 (w w':World) (v2:Value) (n:Int):World:=((w'.setCell ⟨w.heap.size,0,none⟩ v2).setCell ⟨w.heap.size+1,0,none⟩ (.int .i64 n)).alloc (.cells #[.int .i64 0] 72)
theorem cell18a {w w':World} {v:Value} (h:w'.heap[w.heap.size]?=(w18 w v).heap[w.heap.size]?):w'.cell? ⟨w.heap.size,0,none⟩=some (.slice none 0 0)/\w'.frozen? ⟨w.heap.size,0,none⟩=false:=by
 rw [Ev.cell?_of_heap h,Ev.frozen?_of_heap h]
 simp [w18,go_sem]
theorem cell18b {w w':World} {v:Value} (h:w'.heap[w.heap.size+1]?=(w18 w v).heap[w.heap.size+1]?):w'.cell? ⟨w.heap.size+1,0,none⟩=some (.int .i64 0)/\w'.frozen? ⟨w.heap.size+1,0,none⟩=false:=by
 rw [Ev.cell?_of_heap h,Ev.frozen?_of_heap h]
 simp [w18,go_sem]
theorem cell18c (w w':World) (v:Value) {x:Option Value} (h:w'.cell? ⟨w.heap.size+1,0,none⟩=x):(w'.setCell ⟨w.heap.size,0,none⟩ v).cell? ⟨w.heap.size+1,0,none⟩=x:=by
 rw [World.cell?_setCell_other _ _ _ _ (by simp),h]
theorem frz18c (w w':World) (v:Value) {x:Bool} (h:w'.frozen? ⟨w.heap.size+1,0,none⟩=x):(w'.setCell ⟨w.heap.size,0,none⟩ v).frozen? ⟨w.heap.size+1,0,none⟩=x:=by
 rw [World.frozen?_setCell,h]
theorem end18 {w w':World} {v2 x y:Value} {n:Int} (hs:w.heap.size+3<=w'.heap.size) (h1:w'.cell? ⟨w.heap.size,0,none⟩=some x) (h2:w'.cell? ⟨w.heap.size+1,0,none⟩=some y) :
  (((w'.setCell ⟨w.heap.size,0,none⟩ v2).setCell ⟨w.heap.size+1,0,none⟩ (.int .i64 n)).alloc (.cells #[.int .i64 0] 72)).cell? ⟨w.heap.size,0,none⟩=some v2 /\
  (((w'.setCell ⟨w.heap.size,0,none⟩ v2).setCell ⟨w.heap.size+1,0,none⟩ (.int .i64 n)).alloc (.cells #[.int .i64 0] 72)).cell? ⟨w.heap.size+1,0,none⟩=some (.int .i64 n):=by
 rw [World.cell?_alloc_past _ _ _ (by simp [World.setCell];omega),World.cell?_alloc_past _ _ _ (by simp [World.setCell];omega)]
 refine ⟨?_,World.cell?_setCell_same _ _ _ (cell18c w w' v2 h2)⟩
 rw [World.cell?_setCell_other _ _ _ _ (by simp),World.cell?_setCell_same _ _ _ h1]
theorem stay {w w':World} {n i:Nat} {x:Value} (hb:RowKit.Below w.heap.size w w') (hn:n<w.heap.size) (h:w.cell? ⟨n,i,none⟩=some x):w'.cell? ⟨n,i,none⟩=some x:=by
 rw [Ev.cell?_of_heap (hb.block n hn),h]
theorem stayF {w w':World} {n i:Nat} {x:Bool} (hb:RowKit.Below w.heap.size w w') (hn:n<w.heap.size) (h:w.frozen? ⟨n,i,none⟩=x):w'.frozen? ⟨n,i,none⟩=x:=by
 rw [Ev.frozen?_of_heap (hb.block n hn),h]
theorem walk18 (w:World) (s:ByteArray) (G:Value->World->Prop)
  (hc:Calls Tryz.prog 33 #[.pointer (some ⟨w.heap.size+2,0,none⟩),.int .i64 0] (w18 w (.string s)) (R33 w (.string s) G))
  (hm:∀ v w1,G v w1->Calls Tryz.prog 34 #[.bool true] w1 λe w2=>e=.returned (.tuple #[])/\RowKit.Below w1.heap.size w1 w2)
  (hk:∀ v w0 w1,G v w0->RowKit.Below w0.heap.size w0 w1->Calls Tryz.prog 14 #[v] w1 λe w2=>e=.returned (.int .i64 0)/\RowKit.Below w1.heap.size w1 w2) :
  Calls Tryz.prog 18 #[.string s] w λe w''=>∃ w' w1 v2,G v2 w'/\RowKit.Below w'.heap.size w' w1/\e=.returned (.tuple #[v2,.int .i64 0])/\w''=w19 w w1 v2 0:=by
 have hmf:∀ (fn:Fn) (first cap:Array Value) (w:World),(Instr.makeFunc fn first cap).run Tryz.prog w=.ok (.func fn first cap) w:=λ_ _ _ _=>rfl
 have hc':Calls Tryz.prog 33 #[.pointer (some ⟨w.heap.size+2,0,none⟩),.int .i64 0] (((w.alloc (.cells #[.slice none 0 0] 22)).alloc (.cells #[.int .i64 0] 28)).alloc (.cells #[.string s,.slice none 0 0] 76)) (R33 w (.string s) G):=hc
 clear hc
 go_enter_defers Tryz.func18,Tryz.ntmps18
 go_wp2_with (first
  | (refine hc'.mono ?_;rintro e w' ⟨hs,k1,k2,rfl,a2,n2,q2,k0,k3,k4⟩;obtain ⟨c1,f1⟩:=cell18a k1;obtain ⟨c2,f2⟩:=cell18b k2)
  | (refine (hm _ _ k4).mono ?_;rintro e w1 ⟨rfl,hb1⟩;have c1':=stay hb1 (by omega) c1;have c2':=stay hb1 (by omega) c2;have f1':=stayF hb1 (by omega) f1;have f2':=stayF hb1 (by omega) f2;have k3':=stay hb1 (by omega) k3)
  | (refine (hk _ _ _ k4 hb1).mono ?_;rintro e w2 ⟨rfl,hb2⟩;have hs1:=hb1.size;have hs2:=hb2.size;have c1'':=stay hb2 (by omega) c1';have c2'':=stay hb2 (by omega) c2';have f1'':=stayF hb2 (by omega) f1';have f2'':=stayF hb2 (by omega) f2';have k3'':=stay hb2 (by omega) k3';have c3:=λv=>cell18c w w2 v c2'';have f3:=λv=>frz18c w w2 v f2''))
 refine leaves_cons (f:=32) (args:=#[.pointer (some ⟨w.heap.size,0,none⟩),.pointer (some ⟨w.heap.size+1,0,none⟩)]) (by simp) (by simp [go_sem]) ?_
 refine (idle32 _ _ _).mono ?_
 rintro e u' w'' ⟨rfl,rfl,rfl⟩
 obtain ⟨d1,d2⟩:=end18 (w':=w2) (v2:=.slice a2 n2 q2) (n:=0) (by omega) c1'' c2''
 simp [Leaves,settle,results,Tryz.results18,go_sem,d1,d2]
 exact ⟨w',w2,_,k4,⟨hb2.os.trans hb1.os,hb2.tape.trans hb1.tape,hb2.output.trans hb1.output,Nat.le_trans hs1 hs2,λk hk=>(hb2.block k (Nat.lt_of_lt_of_le hk hs1)).trans (hb1.block k hk)⟩,rfl,rfl⟩
end Go.Qy
namespace Go.Qy
open Go Go.Ev Go.Proofs
set_option maxRecDepth 100000
abbrev KT:Ty:=(.pair (.int .i64) (.pair .u8 (.pair (.int .i64) (.pair .str (.pair (.pair (.int .i64) (.pair (.int .i64) (.pair (.int .i64) .unit))) (.pair .str (.pair .str .unit)))))))
noncomputable def parseR (l:List UInt8):=F33c900 (((),0,()),((l,(),()),[],()))
noncomputable def parseL (l:List UInt8):List KT.den :=
 match parseR l with
 | some (Sum.inl _,q)=>q.2.1
 | _=>[]
noncomputable def parseOK (l:List UInt8):Bool :=
 match parseR l with
 | some (Sum.inl _,q)=>match q.1.1 with
  | []=>match F14 ((q.2.1,()),()) with
   | some (n,_)=>decide (n=0)
   | none=>false
  | _=>false
 | _=>false
noncomputable def zParse18:Deed:=λargs S =>
 match args with
 | [.s l]=>some (parseOK l,.tup [.wh S.nx,.i .i64 0],⟨S.E,updH S.H S.nx (.data KT (parseL l)),S.nx+1,S.kl⟩)
 | _=>none
def GP {P:Program} (F:Frm (tabsOf P)) (μ:Nat->Option Nat) (H:Nat->Blk) (w:World) (L:List KT.den) (v2:Value) (w':World):Prop :=
 RowKit.Below w.heap.size w w'/\(tabsOf P).tab w' /\
 ((v2=.slice none 0 0/\L=[])\/∃ g c,v2=.slice (some ⟨g,0,none⟩) L.length c/\w.heap.size+2<=g/\g<w'.heap.size/\L.length<=c/\room w' g (c*KT.size) /\
  ∀ i (h:i<L.length),∃ es:List Value,es.length=KT.size/\Ev.rowAt w' g (i*KT.size) es/\∃ N:Nat->Prop,(∀ g',F g'\/Trk μ H g'\/g'=g\/g'=w.heap.size\/g'=w.heap.size+1->N g')/\RelD w' N KT L[i] es)
theorem w18_size (w:World) (v:Value):(w18 w v).heap.size=w.heap.size+3:=by
 show (((w.heap.push _).push _).push _).size=_
 simp only [Array.size_push]
theorem w18_old (w:World) (v:Value) {g:Nat} (h:g<w.heap.size):(w18 w v).heap[g]?=w.heap[g]?:=by
 show (((w.heap.push _).push _).push _)[g]?=_
 rw [Array.getElem?_push,if_neg (by simp only [Array.size_push];omega),Array.getElem?_push,if_neg (by simp only [Array.size_push];omega),Array.getElem?_push,if_neg (by omega)]
theorem w18_cell (w:World) (v:Value) (i:Nat):(w18 w v).cell? ⟨w.heap.size+2,i,none⟩=#[v,Value.slice none 0 0][i]?:=by
 unfold w18
 rw [World.cell?_alloc_at _ _ _ _ (by show _=((w.heap.push _).push _).size;simp only [Array.size_push])]
theorem w18_frozen (w:World) (v:Value) (i:Nat):(w18 w v).frozen? ⟨w.heap.size+2,i,none⟩=false:=by
 unfold w18
 rw [World.frozen?_alloc_at _ _ _ _ (by show _=((w.heap.push _).push _).size;simp only [Array.size_push])]
def F18' {P:Program} (F:Frm (tabsOf P)) (μ:Nat->Option Nat) (H:Nat->Blk) (w:World):Frm (tabsOf P):=⟨λg=>F g\/Trk μ H g\/g=w.heap.size\/g=w.heap.size+1⟩
def μ18 (w:World):Nat->Option Nat:=λb=>if b=0 then some (w.heap.size+2) else none
theorem in18 {F:Frm (tabsOf Tryz.prog)} {μ:Nat->Option Nat} {H:Nat->Blk} {nx:Nat} {w:World} (hp:Hp F μ H nx w) (l:List UInt8) :
  Hp (F18' F μ H w) (μ18 w) (unBlks O33c900.blks ((l,(),()),[],())) O33c900.blks.length (w18 w (.string ⟨l.toArray⟩)):=by
 have hH:∀ b,unBlks O33c900.blks ((l,(),()),[],()) b≠.dead->b=0\/b=1:=λb h=>by
  by_cases h0:b=0
  ·exact .inl h0
  ·by_cases h1:b=1
   ·exact .inr h1
   ·exact absurd (by show updH (updH (λ_=>.dead) 1 _) 0 _ b=.dead;rw [updH_other h0,updH_other h1]) h
 have hμ:∀ b g,μ18 w b=some g->b=0/\g=w.heap.size+2:=λb g h=>by
  unfold μ18 at h
  split at h
  ·cases h;exact ⟨by assumption,rfl⟩
  ·cases h
 refine ⟨λb=>?_,λb g h1 h2=>?_,λb b' g h1 h2 h3 h4=>?_,λb hb=>?_,λb g h1 h2=>?_,λg h=>?_,?_,λb g h1 h2=>?_⟩
 ·by_cases h0:b=0
  ·subst h0
   show RelB _ _ _ _ 0 (.vars [.s l,.wh 1])
   simp only [RelB]
   refine .inr ⟨w.heap.size+2,[.string ⟨l.toArray⟩,.slice none 0 0],rfl,?_,λi hi=>?_,λk hk=>?_⟩
   ·simp only [RelVs,RelV]
    exact ⟨_,_,rfl,rfl,_,_,rfl,⟨KT,[],rfl,.inr ⟨rfl,rfl,rfl⟩⟩,rfl⟩
   ·rw [Nat.zero_add,w18_cell]
    match i,hi with
    | 0,_=>rfl
    | 1,_=>rfl
   ·refine ⟨?_,w18_frozen _ _ _⟩
    rw [w18_cell]
    match k,hk with
    | 0,_=>rfl
    | 1,_=>rfl
  ·by_cases h1:b=1
   ·subst h1
    show RelB _ _ _ _ 1 (.data KT [])
    simp only [RelB]
    exact .inl ⟨rfl,trivial⟩
   ·have:unBlks O33c900.blks ((l,(),()),[],()) b=.dead:=by
     show updH (updH (λ_=>.dead) 1 _) 0 _ b=.dead
     rw [updH_other h0,updH_other h1]
    rw [this]
    simp only [RelB]
 ·have:=(hμ b g h2).2
  rw [w18_size];omega
 ·rw [(hμ b g h3).1,(hμ b' g h4).1]
 ·have hb:2<=b:=hb
  show updH (updH (λ_=>.dead) 1 _) 0 _ b=.dead
  rw [updH_other (by omega),updH_other (by omega)]
 ·have hg:=(hμ b g h2).2
  subst hg
  rintro (h | h | h | h)
  ·have:=hp.flt _ h;omega
  ·obtain ⟨b',hb,hm⟩:=h
   have:=hp.lt b' _ hb hm;omega
  ·omega
  ·omega
 ·rw [w18_size]
  rcases h with h | h | h | h
  ·have:=hp.flt _ h;omega
  ·obtain ⟨b',hb,hm⟩:=h
   have:=hp.lt b' _ hb hm;omega
  ·omega
  ·omega
 ·exact (tabsOf Tryz.prog).stays w _ (λg hg=>w18_old w _ ((tabsOf Tryz.prog).lt w g hp.tab hg)) hp.tab
 ·have hg:=(hμ b g h2).2
  intro ho
  have:=(tabsOf Tryz.prog).lt w g hp.tab ho
  omega
theorem call33 {F:Frm (tabsOf Tryz.prog)} {μ:Nat->Option Nat} {H:Nat->Blk} {nx:Nat} {w:World} (hp:Hp F μ H nx w) (l:List UInt8) (hok:parseOK l=true) :
  Calls Tryz.prog 33 #[.pointer (some ⟨w.heap.size+2,0,none⟩),.int .i64 0] (w18 w (.string ⟨l.toArray⟩)) (R33 w (.string ⟨l.toArray⟩) (GP F μ H w (parseL l))):=by
 unfold parseOK at hok
 cases hr:parseR l with
 | none=>simp [hr] at hok
 | some r =>
  have hargs:RelVs (w18 w (.string ⟨l.toArray⟩)) (Not (F18' F μ H w) (μ18 w) (unBlks O33c900.blks ((l,(),()),[],()))) (μ18 w) (unBlks O33c900.blks ((l,(),()),[],())) (unL O33c900.args ((),0,())) [.pointer (some ⟨w.heap.size+2,0,none⟩),.int .i64 0]:=by
   show RelVs _ _ _ _ [.ptr 0 0,.i .i64 0] _
   simp only [RelVs,RelV]
   exact ⟨_,_,rfl,⟨(λh=>by cases h),_,rfl,rfl⟩,_,_,rfl,rfl,rfl⟩
  refine (ok33c900.run (((),0,()),((l,(),()),[],())) r hr (F18' F μ H w) (μ18 w) (w18 w (.string ⟨l.toArray⟩)) _ (in18 hp l) hargs).mono λe w' ⟨val,μ',nx',h1,h2,h3,hch,hnew,hpin⟩=>?_
  have htrk:∀ g,Trk (μ18 w) (unBlks O33c900.blks ((l,(),()),[],())) g->g=w.heap.size+2:=λg ⟨b,_,h⟩=>by
   unfold μ18 at h
   split at h
   ·cases h;rfl
   ·cases h
  have hsz:w.heap.size+3<=w'.heap.size:=by
   have:=hch.size
   rwa [w18_size] at this
  have hkeep:∀ g,g<w.heap.size+3->g≠w.heap.size+2->w'.heap[g]?=(w18 w (.string ⟨l.toArray⟩)).heap[g]?:=λg hg hne=>hch.keep g (by rw [w18_size];exact hg) λh=>hne (htrk g h)
  have below:RowKit.Below w.heap.size w w':=⟨hch.os,hch.tape,hch.output,by omega,λk hk=>(hkeep k (by omega) (by omega)).trans (w18_old w _ hk)⟩
  refine ⟨hsz,hkeep _ (by omega) (by omega),hkeep _ (by omega) (by omega),?_⟩
  obtain ⟨x | x,q⟩:=r
  ·have h1:e=.returned val:=h1
   have h3:RelV w' _ μ' _ (.tup []) val:=h3
   simp only [RelV,RelVs] at h3
   obtain ⟨vs,hvs,rfl⟩:=h3
   have hm0:μ' 0=some (w.heap.size+2):=(hpin 0 (by show 0<2;omega) (by show (Blk.vars _).tag≠0;simp [Blk.tag])).2
   have hB0:RelB w' (Not (F18' F μ H w) μ' (unBlks O33c900.oblks q)) μ' (unBlks O33c900.oblks q) 0 (.vars [.s q.1.1,.wh 1]):=h2.blk 0
   have hB1:RelB w' (Not (F18' F μ H w) μ' (unBlks O33c900.oblks q)) μ' (unBlks O33c900.oblks q) 1 (.data KT q.2.1):=h2.blk 1
   have hl1:unBlks O33c900.oblks q 1=.data KT q.2.1:=rfl
   simp only [RelB] at hB0 hB1
   rcases hB0 with hB0 | ⟨g,vs,hg,hvs',hrow,_⟩
   ·rw [hm0] at hB0;cases hB0
   rw [hm0] at hg
   cases hg
   simp only [RelVs,RelV] at hvs'
   obtain ⟨x1,_,rfl,rfl,x2,_,rfl,⟨t,l',hl',hx2⟩,rfl⟩:=hvs'
   rw [hl1] at hl'
   cases hl'
   have hcell0:=hrow 0 (by simp)
   have hcell:=hrow 1 (by simp)
   have hs0:q.1.1=[]:=by
    rw [hr] at hok
    simp only at hok
    cases hq:q.1.1 with
    | nil=>rfl
    | cons a t=>rw [hq] at hok;cases hok
   have hL:parseL l=q.2.1:=by simp [parseL,hr]
   refine ⟨by rw [h1,hvs],?_⟩
   have htab:(tabsOf Tryz.prog).tab w':=h2.tab
   rcases hx2 with ⟨g,c,hm1,rfl,hc,hroom⟩ | ⟨hm1,hnil,rfl⟩
   ·refine ⟨_,_,_,by simpa [hs0] using hcell0,by simpa using hcell,below,htab,?_⟩
    rw [hL]
    refine .inr ⟨g,c,rfl,?_,h2.lt 1 g (by rw [hl1];simp) hm1,hc,hroom,λi hi=>?_⟩
    ·rcases hnew g ⟨1,by rw [hl1];simp,hm1⟩ with h | h
     ·exact Nat.le_of_eq (htrk g h).symm
     ·rw [w18_size] at h;omega
    ·rcases hB1 with ⟨h,_⟩ | ⟨g',hg',_,hrows⟩
     ·rw [hm1] at h;cases h
     rw [hm1] at hg'
     cases hg'
     obtain ⟨es,e1,e2,e3⟩:=hrows i hi
     refine ⟨es,e1,e2,_,λg' h=>?_,e3⟩
     rcases h with h | h | h | h | h
     ·exact .inl (.inl h)
     ·exact .inl (.inr (.inl h))
     ·exact .inr ⟨1,by rw [hl1];simp,by rw [h];exact hm1⟩
     ·exact .inl (.inr (.inr (.inl h)))
     ·exact .inl (.inr (.inr (.inr h)))
   ·refine ⟨_,_,_,by simpa [hs0] using hcell0,by simpa using hcell,below,htab,?_⟩
    rw [hL]
    exact .inl ⟨rfl,hnil⟩
  ·rw [hr] at hok
   simp at hok
theorem call34 (w:World) (ht:(tabsOf Tryz.prog).tab w):Calls Tryz.prog 34 #[.bool true] w λe w2=>e=.returned (.tuple #[])/\RowKit.Below w.heap.size w w2:=by
 have hargs:RelVs w (Not (noF:Frm (tabsOf Tryz.prog)) (λ_=>none) λ_=>.dead) (λ_=>none) (λ_=>.dead) (unL O34.args (true,())) [.bool true]:=by
  show RelVs _ _ _ _ [.b true] _
  simp only [RelVs,RelV]
  exact ⟨_,_,rfl,rfl,rfl⟩
 refine (ok34.run ((true,()),()) _ (rfl:F34 ((true,()),())=some (Sum.inl (),())) noF (λ_=>none) w _ (hp_none ht) hargs).mono λe w' ⟨val,μ',nx',h1,h2,h3,h4,_⟩=>⟨?_,h4.os,h4.tape,h4.output,h4.size,λk hk=>h4.keep k hk λ⟨j,h,_⟩=>h rfl⟩
 have h1:e=.returned val:=h1
 have h3:RelV w' _ μ' _ (.tup []) val:=h3
 simp only [RelV,RelVs] at h3
 obtain ⟨vs,hvs,rfl⟩:=h3
 rw [h1,hvs]
theorem w19_at (w w':World) (v2:Value) (n:Int) {g:Nat} (hg:g<w'.heap.size) (h1:g≠w.heap.size) (h2:g≠w.heap.size+1):(w19 w w' v2 n).heap[g]?=w'.heap[g]?:=by
 unfold w19
 show ((World.setCell _ _ _).heap.push _)[g]?=_
 simp only [World.setCell]
 rw [Array.getElem?_push,if_neg (by simp only [Array.size_modify];omega),Array.getElem?_modify,if_neg (λh=>h2 h.symm),Array.getElem?_modify,if_neg (λh=>h1 h.symm)]
theorem w19_size (w w':World) (v2:Value) (n:Int):(w19 w w' v2 n).heap.size=w'.heap.size+1:=by
 unfold w19
 show ((World.setCell _ _ _).heap.push _).size=_
 simp only [World.setCell,Array.size_push,Array.size_modify]
theorem w19_below {w w':World} (v2:Value) (n:Int) (h:RowKit.Below w.heap.size w w'):RowKit.Below w.heap.size w (w19 w w' v2 n) :=
 ⟨h.os,h.tape,h.output,by rw [w19_size];exact Nat.le_succ_of_le h.size,λk hk=>(w19_at w w' v2 n (Nat.lt_of_lt_of_le hk h.size) (by omega) (by omega)).trans (h.block k hk)⟩
theorem below_trans {n m:Nat} {w w' w'':World} (h1:RowKit.Below n w w') (h2:RowKit.Below m w' w'') (hn:n<=m):RowKit.Below n w w'' :=
 ⟨h2.os.trans h1.os,h2.tape.trans h1.tape,h2.output.trans h1.output,Nat.le_trans h1.size h2.size,λk hk=>(h2.block k (Nat.lt_of_lt_of_le hk hn)).trans (h1.block k hk)⟩
theorem call14 {F:Frm (tabsOf Tryz.prog)} {μ:Nat->Option Nat} {H:Nat->Blk} {w:World} {L:List KT.den} (hL:F14 ((L,()),())=some (0,())) (v:Value) (w0 w1:World) (hG:GP F μ H w L v w0) (hb:RowKit.Below w0.heap.size w0 w1) :
  Calls Tryz.prog 14 #[v] w1 λe w2=>e=.returned (.int .i64 0)/\RowKit.Below w1.heap.size w1 w2:=by
 obtain ⟨hb0,ht,hG⟩:=hG
 have ht1:=tab_below ht hb
 refine toldI (p:=(L,())) ok14 hL ht1 ?_
 show RelVs _ _ _ _ [.sl KT L] _
 have hN:∀ g',¬ Not (noF:Frm (tabsOf Tryz.prog)) (λ_=>none) (λ_=>Blk.dead) g':=λg' h=>by
  rcases h with h | ⟨b,h,_⟩
  ·exact h
  ·exact h rfl
 rcases hG with ⟨rfl,rfl⟩ | ⟨g,c,rfl,hg1,hg2,hc,hroom,hrows⟩
 ·simp only [RelVs,RelV,RelD]
  exact ⟨_,_,rfl,⟨none,0,rfl,Nat.le_refl _,λh=>absurd h (by simp)⟩,rfl⟩
 ·have hat:w1.heap[g]?=w0.heap[g]?:=hb.block g hg2
  simp only [RelVs,RelV,RelD]
  refine ⟨_,_,rfl,⟨some ⟨g,0,none⟩,c,rfl,hc,λh0=>⟨g,0,rfl,hN g,Nat.lt_of_lt_of_le hg2 hb.size,λi hi=>?_⟩⟩,rfl⟩
  obtain ⟨es,e1,e2,N,hNg,e3⟩:=hrows i hi
  refine ⟨es,e1,by simpa using rowAt_of_heap hat e2,e3.keep ⟨hb.size,λk hk hn=>hb.block k hk⟩ λk hk h=>absurd h (hN k)⟩
theorem zParse18_ok:ZOK Tryz.prog 18 zParse18:=by
 refine ⟨Tryz.call18,λargs S v S' h F μ w vals hp hr=>?_⟩
 unfold zParse18 at h
 split at h
 ·rename_i l
  rw [oSi,Prod.mk.injEq,Prod.mk.injEq] at h
  obtain ⟨hok,rfl,rfl⟩:=h
  simp only [RelVs] at hr
  obtain ⟨v1,_,rfl,hv,rfl⟩:=hr
  have hv:v1=.string ⟨l.toArray⟩:=by simpa only [RelV] using hv
  subst hv
  have h14:F14 ((parseL l,()),())=some (0,()):=by
   unfold parseOK at hok
   unfold parseL
   cases hr:parseR l with
   | none=>simp [hr] at hok
   | some r =>
    rw [hr] at hok
    obtain ⟨x | x,q⟩:=r
    ·simp only at hok ⊢
     cases hq:q.1.1 with
     | cons a t=>rw [hq] at hok;cases hok
     | nil =>
      rw [hq] at hok
      simp only at hok
      cases hf:F14 ((q.2.1,()),()) with
      | none=>rw [hf] at hok;cases hok
      | some y =>
       rw [hf] at hok
       obtain ⟨n,⟨⟩⟩:=y
       have:n=0:=by simpa using hok
       rw [this]
    ·simp at hok
  refine (walk18 w ⟨l.toArray⟩ (GP F μ S.H w (parseL l)) (call33 hp l hok) (λv w0 hG=>call34 w0 hG.2.1) (λv w0 w1 hG hb=>call14 h14 v w0 w1 hG hb)).mono λe w'' h=>?_
  obtain ⟨w',w1,v2,⟨hb0,_,hG⟩,hb1,rfl,rfl⟩:=h
  have hb:RowKit.Below w.heap.size w w1:=below_trans hb0 hb1 hb0.size
  rcases hG with ⟨rfl,hL⟩ | ⟨g,c2,rfl,hg1,hg2,hc2,hroom,hrows⟩
  ·obtain ⟨μ',kl,r1,r2,r3,r4,r5⟩:=new_nilN (t:=KT) hp (w19_below (.slice none 0 0) 0 hb)
   rw [hL]
   refine ⟨μ',kl,_,rfl,r1,r2,r3,r4,?_⟩
   simp only [RelVs,RelV]
   exact ⟨_,rfl,_,_,rfl,by simpa only [RelV] using r5,_,_,rfl,rfl,rfl⟩
  ·have hg3:g<w1.heap.size:=Nat.lt_of_lt_of_le hg2 hb1.size
   have hat:(w19 w w1 (.slice (some ⟨g,0,none⟩) (parseL l).length c2) 0).heap[g]?=w'.heap[g]?:=(w19_at _ _ _ _ hg3 (by omega) (by omega)).trans (hb1.block g hg2)
   obtain ⟨μ',kl,r1,r2,r3,r4,r5⟩:=new_dataN (gb:=g) (c:=c2) (t:=KT) (l:=parseL l) hp (w19_below (.slice (some ⟨g,0,none⟩) (parseL l).length c2) 0 hb) (by omega) (by rw [w19_size];omega) hc2
    (λk hk=>by
     obtain ⟨k1,k2⟩:=hroom k hk
     exact ⟨by rw [Ev.cell?_of_heap hat];exact k1,by rw [Ev.frozen?_of_heap hat];exact k2⟩)
    (λi hi=>by
     obtain ⟨es,e1,e2,N,hN,e3⟩:=hrows i hi
     refine ⟨es,e1,rowAt_of_heap hat e2,e3.keep ⟨by rw [w19_size];exact Nat.le_succ_of_le hb1.size,λk hk hn=>(w19_at _ _ _ _ (Nat.lt_of_lt_of_le hk hb1.size) (λh=>hn (hN k (by simp [h]))) (λh=>hn (hN k (by simp [h])))).trans (hb1.block k hk)⟩ λk hk h=>hN k ?_⟩
     rcases h with h | ⟨b,hb1,hb2⟩
     ·exact .inl h
     ·by_cases hbn:b=S.nx
      ·subst hbn
       rw [updM_same] at hb2
       cases hb2
       exact .inr (.inr (.inl rfl))
      ·rw [updH_other hbn] at hb1
       rw [updM_other hbn] at hb2
       exact .inr (.inl ⟨b,hb1,hb2⟩))
   refine ⟨μ',kl,_,rfl,r1,r2,r3,r4,?_⟩
   simp only [RelVs,RelV]
   exact ⟨_,rfl,_,_,rfl,by simpa only [RelV] using r5,_,_,rfl,rfl,rfl⟩
 ·cases h
end Go.Qy
namespace Go.Qy
open Go Go.Ev Go.Proofs
set_option maxRecDepth 100000
noncomputable def F8a (G6:Q62×Unit->Option Q54) (G19:Q73×Unit->Option Q41) (_p:Unit×Unit):Option Q31:=(Option.bind (cond (parseOK ([117,110,115,101,101,110,32,40,111,114,32,102,114,111,109,32,98,111,98,32,108,97,114,103,101,114,32,53,41]:List UInt8)) (some (((),(),()),((parseL ([117,110,115,101,101,110,32,40,111,114,32,102,114,111,109,32,98,111,98,32,108,97,114,103,101,114,32,53,41]:List UInt8)),()))) none) λp1=>(Option.bind (Option.bind (G19 ((([((2:Int),((1:UInt8),((0:Int),(([]:List UInt8),(((0:Int),((0:Int),((0:Int),()))),(([]:List UInt8),(([]:List UInt8),())))))))]:List Q1),()),())) λr2=>(some (((),(),r2.1.1,r2.1.2.1,()),p1.2))) λp3=>(Option.bind (cond (!(List.isEmpty ([(70:UInt8),(114:UInt8),(111:UInt8),(109:UInt8),(58:UInt8),(32:UInt8),(66:UInt8),(111:UInt8),(98:UInt8),(32:UInt8),(60:UInt8),(98:UInt8),(64:UInt8),(99:UInt8),(62:UInt8),(13:UInt8),(10:UInt8),(13:UInt8),(10:UInt8),(120:UInt8)]:List UInt8))) (Option.bind (G6 ((([((11:Int),((0:UInt8),((0:Int),(([]:List UInt8),(((0:Int),((0:Int),((0:Int),()))),(([102,114,111,109]:List UInt8),(([66,79,66]:List UInt8),())))))))]:List Q1),((0:Int),(0:Int),(0:Int),(0:Int),(0:UInt8),([(70:UInt8),(114:UInt8),(111:UInt8),(109:UInt8),(58:UInt8),(32:UInt8),(66:UInt8),(111:UInt8),(98:UInt8),(32:UInt8),(60:UInt8),(98:UInt8),(64:UInt8),(99:UInt8),(62:UInt8),(13:UInt8),(10:UInt8),(13:UInt8),(10:UInt8),(120:UInt8)]:List UInt8),()),()),())) λr4=>(some (((),(),p3.1.2.2.1,p3.1.2.2.2.1,r4.1.1,r4.1.2.1,()),p3.2))) none) λp5=>(cond ((decide ((4:Int)<(p5.2.1.length:Int)))||(!(true&&(decide ((p5.2.1.length:Int)=(5:Int)))))) (cond ((decide ((3:Int)<(p5.2.1.length:Int)))||(!((true&&(decide ((p5.2.1.length:Int)=(5:Int))))&&(decide ((List.getD p5.2.1 4 kz).1=(16:Int)))))) (some ((((((((true&&(decide ((p5.2.1.length:Int)=(5:Int))))&&(decide ((List.getD p5.2.1 4 kz).1=(16:Int))))&&(decide ((List.getD p5.2.1 3 kz).1=(15:Int))))&&(decide (p5.1.2.2.1=([83,69,69,78]:List UInt8))))&&(decide (p5.1.2.2.2.1=(0:Int))))&&p5.1.2.2.2.2.1)&&(decide (p5.1.2.2.2.2.2.1=(0:Int)))),())) none) none))))
noncomputable def O8a (G6:Q62×Unit->Option Q54) (G19:Q73×Unit->Option Q41):Orc:=⟨.nil,[],.b,[],F8a G6 G19⟩
noncomputable def H8 (_G6:Q62×Unit->Option Q54) (_G19:Q73×Unit->Option Q41):HT:=(.two .leaf (.two (.join [(.normal,⟨[(1,(.own 0)),(2,(.ki .i64 (0)))],[(0,Q34)],1⟩)] .leaf) (.two (.join [(.normal,⟨[(1,(.own 0)),(2,(.ki .i64 (0))),(3,.s),(4,(.i .i64))],[(0,Q34)],1⟩)] .leaf) (.two (.join [(.normal,⟨[(1,(.own 0)),(2,(.ki .i64 (0))),(3,.s),(4,(.i .i64)),(5,.b),(6,(.i .i64))],[(0,Q34)],1⟩)] .leaf) .leaf))))
noncomputable def X8 (G6:Q62×Unit->Option Q54) (G19:Q73×Unit->Option Q41):List (FuncId×Orc):=[(6,⟨Q58,[],(.tup (.cons .b Q10)),[],G6⟩),(19,⟨(.cons (.sl Q0) .nil),[],(.tup (.cons .s Q10)),[],G19⟩)]
noncomputable def Z8:List (FuncId×Deed):=[(18,zParse18)]
theorem run8 (G6:Q62×Unit->Option Q54) (G19:Q73×Unit->Option Q41) (p):evTop Tryz.prog (CX (X8 G6 G19) [] Z8 []) (MX (X8 G6 G19) []) Tryz.f8 (H8 G6 G19) (O8a G6 G19) p=F8a G6 G19 p:=by kernel_rfl
theorem ok8a (G6:Q62×Unit->Option Q54) (G19:Q73×Unit->Option Q41) (h6:(⟨Q58,[],(.tup (.cons .b Q10)),[],G6⟩:Orc).OK Tryz.prog 6) (h19:(⟨(.cons (.sl Q0) .nil),[],(.tup (.cons .s Q10)),[],G19⟩:Orc).OK Tryz.prog 19):(O8a G6 G19).OK Tryz.prog 8 :=
 ok_of mixed (X:=(X8 G6 G19)) (Y:=[]) (Z:=Z8) (I:=[]) (d:=6) ⟨h6,⟨h19,trivial⟩⟩ trivial ⟨zParse18_ok,trivial⟩ trivial (by kernel_rfl) Tryz.func8 Tryz.call8 (c:=bodyOf Tryz.f8) (by kernel_rfl) (h:=(H8 G6 G19)) (by kernel_rfl)
  (ls:=[]) (by kernel_rfl) trivial (run8 G6 G19)
noncomputable def F8:Unit×Unit->Option Q31:=F8a F6 F19
noncomputable def O8:Orc:=O8a F6 F19
theorem ok8:O8.OK Tryz.prog 8:=ok8a F6 F19 ok6 ok19
end Go.Qy
namespace Go.Qy
open Go Go.Ev
set_option maxRecDepth 100000
abbrev k0:KT.den:=((2:Int),((1:UInt8),((0:Int),(([]:List UInt8),(((0:Int),((0:Int),((0:Int),()))),(([]:List UInt8),(([]:List UInt8),())))))))
theorem rounds2 {σ τ:Type} {f:σ->Option (σ⊕τ)} {p q:σ} {r:τ} (h1:f p=some (.inl q)) (h2:f q=some (.inr r)):loopOf f p=some r:=by
 obtain ⟨k,hk⟩:∃ k,FUEL=k+2:=⟨FUEL-2,by unfold FUEL;omega⟩
 show iter f FUEL p=_
 rw [hk]
 simp only [iter,h1,h2]
theorem B19_one:B19_0 (((),[k0],1,0,()),([],()))=some (.inl (((),[k0],1,1,()),([([83,69,69,78],[],())],()))):=by
 unfold B19_0
 simp only [agr_self]
 kernel_rfl
theorem B19_two:B19_0 (((),[k0],1,1,()),([([83,69,69,78],[],())],()))=some (.inr (((),()),([([83,69,69,78],[],())],()))):=by
 unfold B19_0
 simp only [agr_self]
 kernel_rfl
theorem L19_seen:L19_0 (((),[k0],1,0,()),([],()))=some (((),()),([([83,69,69,78],[],())],())):=rounds2 B19_one B19_two
theorem F14_seen:F14 (([k0],()),())=some (0,()):=by kernel_rfl
theorem F19_seen:F19 (([k0],()),())=some (([83,69,69,78],0,()),()):=by
 have h:L19_0 (((),[k0],(([k0].length:Nat):Int),0,()),([],()))=_:=L19_seen
 simp only [F19,oBs,h]
 show _=_
 kernel_rfl
theorem live_true:F8 ((),())=some (true,()):=by
 have h:F19 (([((2:Int),((1:UInt8),((0:Int),(([]:List UInt8),(((0:Int),((0:Int),((0:Int),()))),(([]:List UInt8),(([]:List UInt8),())))))))],()),())=_:=F19_seen
 show F8a F6 F19 ((),())=_
 unfold F8a
 rw [h]
 kernel_rfl
noncomputable def O8t:Orc:=⟨.nil,[],.kb true,[],λ_=>some ((),())⟩
theorem ok8t:O8t.OK Go.Proofs.Tryz.prog 8:=by
 refine ⟨ok8.enters,by kernel_rfl,λp r h=>?_⟩
 exact ok8.run p _ live_true
end Go.Qy
