/- Texts that the last one leans on, 8. -/
import Derived.Test.YtncpngfaimipdaaGreatLG
noncomputable section
namespace Go.Fo
open Go Go.Ev Go.Proofs
set_option maxRecDepth 100000
def F320 (_p:Unit×Unit):Option (Unit×(S71×S79×S65×Unit)):=(some ((),(((),(),()),([]:List (S11×xu)),([]:List S14),())))
abbrev T332_0:Type:=(S68×S93)
abbrev R332_0:Type:=((S43×S93)⊕(S73×S93))
def B332_0 (p:T332_0):Option (T332_0⊕R332_0):=(cond (decide (p.1.2.2.1<(p.2.1.2.1.length:Int))) (cond ((decide ((0:Int)<=p.1.2.2.1))&&(decide (p.1.2.2.1<(p.2.1.2.1.length:Int)))) (cond (decide ((List.getD p.2.1.2.1 p.1.2.2.1.toNat k47).1=p.1.2.1)) (some (Sum.inr (Sum.inr (((),p.1.2.2),p.2)))) (some (Sum.inl (((),p.1.2.1,(zX (p.1.2.2.1+(1:Int))),()),p.2)))) none) (some (Sum.inr (Sum.inl (((),()),p.2)))))
def L332_0 (p:T332_0):Option R332_0:=zP B332_0 p
def F332 (p:S73×S93):Option (Int×S93):=(Option.bind (Option.bind (L332_0 (((),p.1.2.1,(0:Int),()),p.2)) λp1=>(match p1 with | Sum.inl p2=>(some (Sum.inl (((),()),p2.2))) | Sum.inr q2=>(some (Sum.inr q2)))) λp3=>(match p3 with | Sum.inl p4=>(some ((-1:Int),p4.2)) | Sum.inr q4=>(some (q4.1.2.1,q4.2))))
def F361 (p:(S25×S25×Unit)×Unit):Option S61:=(some (((((((((((decide (p.1.1.1=p.1.2.1.1))&&(decide (p.1.1.2.1=p.1.2.1.2.1)))&&(decide (p.1.1.2.2.1=p.1.2.1.2.2.1)))&&(decide (p.1.1.2.2.2.1=p.1.2.1.2.2.2.1)))&&(decide (p.1.1.2.2.2.2.1=p.1.2.1.2.2.2.2.1)))&&(decide (p.1.1.2.2.2.2.2.1=p.1.2.1.2.2.2.2.2.1)))&&(decide (p.1.1.2.2.2.2.2.2.1=p.1.2.1.2.2.2.2.2.2.1)))&&(decide (p.1.1.2.2.2.2.2.2.2.1=p.1.2.1.2.2.2.2.2.2.2.1)))&&(decide (p.1.1.2.2.2.2.2.2.2.2.1=p.1.2.1.2.2.2.2.2.2.2.2.1)))&&(decide (p.1.1.2.2.2.2.2.2.2.2.2.1=p.1.2.1.2.2.2.2.2.2.2.2.2.1))),()))
abbrev T345_0:Type:=((S45×S45×Int×Unit)×Unit)
abbrev R345_0:Type:=(S43⊕S104)
def B345_0 (p:T345_0):Option (T345_0⊕R345_0):=(cond (decide (p.1.2.2.1<(p.1.1.length:Int))) (cond ((decide ((0:Int)<=p.1.2.2.1))&&(decide (p.1.2.2.1<(p.1.1.length:Int)))) (cond ((decide ((0:Int)<=p.1.2.2.1))&&(decide (p.1.2.2.1<(p.1.2.1.length:Int)))) (Option.bind (F361 ((((List.getD p.1.1 p.1.2.2.1.toNat yD).1,(List.getD p.1.1 p.1.2.2.1.toNat yD).2.1,(List.getD p.1.1 p.1.2.2.1.toNat yD).2.2.1,(List.getD p.1.1 p.1.2.2.1.toNat yD).2.2.2.1,(List.getD p.1.1 p.1.2.2.1.toNat yD).2.2.2.2.1,(List.getD p.1.1 p.1.2.2.1.toNat yD).2.2.2.2.2.1,(List.getD p.1.1 p.1.2.2.1.toNat yD).2.2.2.2.2.2.1,(List.getD p.1.1 p.1.2.2.1.toNat yD).2.2.2.2.2.2.2.1,(List.getD p.1.1 p.1.2.2.1.toNat yD).2.2.2.2.2.2.2.2.1,(List.getD p.1.1 p.1.2.2.1.toNat yD).2.2.2.2.2.2.2.2.2.1,()),((List.getD p.1.2.1 p.1.2.2.1.toNat yD).1,(List.getD p.1.2.1 p.1.2.2.1.toNat yD).2.1,(List.getD p.1.2.1 p.1.2.2.1.toNat yD).2.2.1,(List.getD p.1.2.1 p.1.2.2.1.toNat yD).2.2.2.1,(List.getD p.1.2.1 p.1.2.2.1.toNat yD).2.2.2.2.1,(List.getD p.1.2.1 p.1.2.2.1.toNat yD).2.2.2.2.2.1,(List.getD p.1.2.1 p.1.2.2.1.toNat yD).2.2.2.2.2.2.1,(List.getD p.1.2.1 p.1.2.2.1.toNat yD).2.2.2.2.2.2.2.1,(List.getD p.1.2.1 p.1.2.2.1.toNat yD).2.2.2.2.2.2.2.2.1,(List.getD p.1.2.1 p.1.2.2.1.toNat yD).2.2.2.2.2.2.2.2.2.1,()),()),())) λr1=>(cond (!r1.1) (some (Sum.inr (Sum.inr (((),()),())))) (some (Sum.inl ((p.1.1,p.1.2.1,(zX (p.1.2.2.1+(1:Int))),()),()))))) none) none) (some (Sum.inr (Sum.inl ((),())))))
def L345_0 (p:T345_0):Option R345_0:=zP B345_0 p
def F345 (p:(S45×S45×Unit)×Unit):Option S61:=(cond (!(decide ((p.1.1.length:Int)=(p.1.2.1.length:Int)))) (some (false,())) (Option.bind (Option.bind (L345_0 ((p.1.1,p.1.2.1,(0:Int),()),())) λp2=>(match p2 with | Sum.inl _p3=>(some (Sum.inl ((),()))) | Sum.inr _q3=>(some (Sum.inr (((),()),()))))) λp4=>(match p4 with | Sum.inl _p5=>(some (true,())) | Sum.inr _q5=>(some (false,())))))
abbrev T323_0:Type:=((S79×S5×Int×Unit)×Unit)
abbrev R323_0:Type:=((S79×S5×Int×Unit)×Unit)
def B323_0 (p:T323_0):Option (T323_0⊕R323_0):=(cond (((decide ((0:Int)<=p.1.2.2.1))&&(decide (p.1.2.2.1<(p.1.1.length:Int))))||(!(decide (p.1.2.2.1<(p.1.1.length:Int))))) (cond ((decide (p.1.2.2.1<(p.1.1.length:Int)))&&(Go.Op.bytesLess (List.getD p.1.1 p.1.2.2.1.toNat k48).1.1 p.1.2.1)) (some (Sum.inl ((p.1.1,p.1.2.1,(zX (p.1.2.2.1+(1:Int))),()),()))) (some (Sum.inr p))) none)
def L323_0 (p:T323_0):Option R323_0:=zP B323_0 p
def F323 (p:(S79×S5×Unit)×Unit):Option S97:=(Option.bind (Option.bind (L323_0 ((p.1.1,p.1.2.1,(0:Int),()),())) λp1=>(some p1)) λp2=>(cond (((decide ((0:Int)<=p2.1.2.2.1))&&(decide (p2.1.2.2.1<(p2.1.1.length:Int))))||(!(decide (p2.1.2.2.1<(p2.1.1.length:Int))))) (some ((p2.1.2.2.1,((decide (p2.1.2.2.1<(p2.1.1.length:Int)))&&(decide ((List.getD p2.1.1 p2.1.2.2.1.toNat k48).1.1=p2.1.2.1))),()),())) none))
def F362 (_p:Unit×Unit):Option (Unit×(S43×(List S11)×Unit)):=(some ((),(((),()),([]:List S11),())))
def F363 (p:(S79×(S5×Int×vI×Int×Unit)×Unit)×Unit):Option (Unit×(S79×Unit)):=(Option.bind (F323 ((p.1.1,p.1.2.1.1,()),())) λr1=>(Option.bind (cond ((decide ((0:Int)<=r1.1.1))&&(decide (r1.1.1<=(p.1.1.length:Int)))) (cond (zC ((List.length ([]:List (S11×xu)))+(List.length (List.take r1.1.1.toNat p.1.1))) 56) (some ((p.1.1,(),r1.1.1,r1.1.2.1,(),()),((p.1.2.1.1,p.1.2.1.2),(([]:List (S11×xu))++(List.take r1.1.1.toNat p.1.1)),()))) none) none) λp2=>(Option.bind (cond (zC ((List.length p2.2.2.1)+(List.length ([((p2.2.1.1,(p2.2.1.2.1,(p2.2.1.2.2.1,()))),p2.2.1.2.2.2)]:List (S11×xu)))) 56) (some ((p2.1.1,p2.1.2.2),((p2.2.2.1++([((p2.2.1.1,(p2.2.1.2.1,(p2.2.1.2.2.1,()))),p2.2.1.2.2.2)]:List (S11×xu))),()))) none) λp3=>(Option.bind ((cond p3.1.2.2.1 ((some ((p3.1.1,(zX (p3.1.2.1+(1:Int))),(),()),p3.2))) (some ((p3.1.1,p3.1.2.1,(),()),p3.2)))) λp6=>(cond (((decide ((0:Int)<=p6.1.2.1))&&(decide (p6.1.2.1<=(p6.1.1.length:Int))))&&(decide ((p6.1.1.length:Int)<=(p6.1.1.length:Int)))) (cond (zC ((List.length p6.2.1)+(List.length (List.take ((Int.toNat (p6.1.1.length:Int))-p6.1.2.1.toNat) (List.drop p6.1.2.1.toNat p6.1.1)))) 56) (some ((),((p6.2.1++(List.take ((Int.toNat (p6.1.1.length:Int))-p6.1.2.1.toNat) (List.drop p6.1.2.1.toNat p6.1.1))),()))) none) none)))))
abbrev T365_1:Type:=((S5×Int×Bool×Int×Unit)×Unit)
abbrev R365_1:Type:=((S5×Int×Bool×Unit)×Unit)
def B365_1 (p:T365_1):Option (T365_1⊕R365_1):=(cond (decide (p.1.2.2.2.1<(39:Int))) (Option.bind (cond (((decide ((0:Int)<=p.1.2.1))&&(decide (p.1.2.1<(p.1.1.length:Int))))||p.1.2.2.1) (cond (((decide ((0:Int)<=p.1.2.2.2.1))&&(decide (p.1.2.2.2.1<(39:Int))))||p.1.2.2.1) (some ((p.1.1,p.1.2.1,(p.1.2.2.1||(decide ((List.getD p.1.1 p.1.2.1.toNat 0)=(List.getD ([97,98,99,100,101,102,103,104,105,106,107,108,109,110,111,112,113,114,115,116,117,118,119,120,121,122,48,49,50,51,52,53,54,55,56,57,46,45,95]:List UInt8) p.1.2.2.2.1.toNat 0)))),p.1.2.2.2),())) none) none) λp1=>((some (Sum.inl ((p1.1.1,p1.1.2.1,p1.1.2.2.1,(zX (p1.1.2.2.2.1+(1:Int))),()),()))))) (some (Sum.inr ((p.1.1,p.1.2.1,p.1.2.2.1,()),()))))
def L365_1 (p:T365_1):Option R365_1:=zP B365_1 p
abbrev T365_0:Type:=((S5×Int×Unit)×Unit)
abbrev R365_0:Type:=(S88⊕S104)
def B365_0 (p:T365_0):Option (T365_0⊕R365_0):=(cond (decide (p.1.2.1<(p.1.1.length:Int))) (Option.bind (Option.bind (Option.bind (L365_1 ((p.1.1,p.1.2.1,false,(0:Int),()),())) λp3=>(some p3)) λp4=>(cond (!p4.1.2.2.1) (some (Sum.inr (((),()),()))) (some (Sum.inl ((p4.1.1,p4.1.2.1,()),()))))) λp5=>(match p5 with | Sum.inl p6=>(some (Sum.inl ((p6.1.1,(zX (p6.1.2.1+(1:Int))),()),()))) | Sum.inr _q6=>(some (Sum.inr (Sum.inr (((),()),())))))) (some (Sum.inr (Sum.inl ((p.1.1,()),())))))
def L365_0 (p:T365_0):Option R365_0:=zP B365_0 p
def F365 (p:uR×Unit):Option S61:=(Option.bind (Option.bind (L365_0 ((p.1.1,(0:Int),()),())) λp7=>(match p7 with | Sum.inl p8=>(some (Sum.inl p8)) | Sum.inr _q8=>(some (Sum.inr (((),()),()))))) λp9=>(match p9 with | Sum.inl p10=>(some (((decide ((1:Int)<=(p10.1.1.length:Int)))&&(decide ((p10.1.1.length:Int)<=(24:Int)))),())) | Sum.inr _q10=>(some (false,()))))
abbrev T408_0:Type:=((S5×Unit×Unit)×((List S5)×Unit))
abbrev R408_0:Type:=(S43×((List S5)×Unit))
def B408_0 (p:T408_0):Option (T408_0⊕R408_0):=(cond (decide ((0:Int)<(p.1.1.length:Int))) (Option.bind (cond ((decide ((0:Int)<=(((Go.Lib.decodeGo ⟨List.toArray p.1.1⟩).2:Nat):Int)))&&(decide ((((Go.Lib.decodeGo ⟨List.toArray p.1.1⟩).2:Nat):Int)<=(p.1.1.length:Int)))) (cond (zC ((List.length p.2.1)+(List.length ([(List.take (Int.toNat (((Go.Lib.decodeGo ⟨List.toArray p.1.1⟩).2:Nat):Int)) p.1.1)]:List S5))) 16) (some ((p.1.1,(),(((Go.Lib.decodeGo ⟨List.toArray p.1.1⟩).2:Nat):Int),()),((p.2.1++([(List.take (Int.toNat (((Go.Lib.decodeGo ⟨List.toArray p.1.1⟩).2:Nat):Int)) p.1.1)]:List S5)),()))) none) none) λp1=>(Option.bind (cond (((decide ((0:Int)<=p1.1.2.2.1))&&(decide (p1.1.2.2.1<=(p1.1.1.length:Int))))&&(decide ((p1.1.1.length:Int)<=(p1.1.1.length:Int)))) (some (((List.take ((Int.toNat (p1.1.1.length:Int))-p1.1.2.2.1.toNat) (List.drop p1.1.2.2.1.toNat p1.1.1)),(),()),p1.2)) none) λp2=>(some (Sum.inl p2)))) (some (Sum.inr (((),()),p.2))))
def L408_0 (p:T408_0):Option R408_0:=zP B408_0 p
def F408 (p:uR×Unit):Option (Unit×((List S5)×Unit)):=(Option.bind (Option.bind (L408_0 ((p.1.1,(),()),(([]:List S5),()))) λp3=>(some (((),()),p3.2))) λp4=>(some ((),p4.2)))
def F409 (p:uR×Unit):Option S61:=(cond (decide ((List.length p.1.1)<=9223372036854775807)) (cond ((decide ((0:Int)<(p.1.1.length:Int)))||(!(Go.Lib.validD p.1.1))) (cond ((decide ((0:Int)<(p.1.1.length:Int)))||(!((Go.Lib.validD p.1.1)&&(decide ((UInt8.toNat (32:UInt8))<=(UInt8.toNat (List.getD p.1.1 0 0))))))) (some ((((Go.Lib.validD p.1.1)&&(decide ((UInt8.toNat (32:UInt8))<=(UInt8.toNat (List.getD p.1.1 0 0)))))&&(!decide ((List.getD p.1.1 0 0)=(127:UInt8)))),())) none) none) none)
abbrev T379_0:Type:=((Unit×S5×Int×Unit)×((List S5)×Unit))
abbrev R379_0:Type:=(S88⊕((Unit×Int×Unit×Unit)×Unit))
def B379_0 (p:T379_0):Option (T379_0⊕R379_0):=(cond (decide (p.1.2.2.1<(p.2.1.length:Int))) (Option.bind (cond ((decide ((0:Int)<=p.1.2.2.1))&&(decide (p.1.2.2.1<(p.2.1.length:Int)))) (Option.bind (F409 (((List.getD p.2.1 p.1.2.2.1.toNat ([]:List UInt8)),()),())) λr2=>(cond (!r2.1) (some (Sum.inr (((),p.1.2.2.1,(),()),()))) (Option.bind (cond ((decide ((0:Int)<=p.1.2.2.1))&&(decide (p.1.2.2.1<(p.2.1.length:Int)))) (cond (((decide ((0:Int)<=p.1.2.2.1))&&(decide (p.1.2.2.1<(p.2.1.length:Int))))||(decide ((List.getD p.2.1 p.1.2.2.1.toNat ([]:List UInt8))=([34]:List UInt8)))) (cond ((decide ((List.getD p.2.1 p.1.2.2.1.toNat ([]:List UInt8))=([34]:List UInt8)))||(decide ((List.getD p.2.1 p.1.2.2.1.toNat ([]:List UInt8))=([92]:List UInt8)))) (cond (fits (List.length p.1.2.1+List.length ([92]:List UInt8))) (some (((),(p.1.2.1++([92]:List UInt8)),p.1.2.2.1,()),p.2)) none) (some p)) none) none) λp3=>(Option.bind (cond ((decide ((0:Int)<=p3.1.2.2.1))&&(decide (p3.1.2.2.1<(p3.2.1.length:Int)))) (cond (fits (List.length p3.1.2.1+List.length (List.getD p3.2.1 p3.1.2.2.1.toNat ([]:List UInt8)))) (some (((),(p3.1.2.1++(List.getD p3.2.1 p3.1.2.2.1.toNat ([]:List UInt8))),p3.1.2.2),p3.2)) none) none) λp4=>(some (Sum.inl p4)))))) none) λp5=>(match p5 with | Sum.inl p6=>(some (Sum.inl (((),p6.1.2.1,(zX (p6.1.2.2.1+(1:Int))),()),p6.2))) | Sum.inr q6=>(some (Sum.inr (Sum.inr (((),q6.1.2.1,(),()),())))))) (some (Sum.inr (Sum.inl ((p.1.2.1,()),())))))
def L379_0 (p:T379_0):Option R379_0:=zP B379_0 p
def F379 (p:uR×Unit):Option ((S5×Int×Int×Unit)×Unit):=(cond (decide ((1024:Int)<(p.1.1.length:Int))) (some ((([]:List UInt8),(0:Int),(6:Int),()),())) (Option.bind (F408 p) λr1=>(Option.bind (Option.bind (L379_0 (((),([34]:List UInt8),(0:Int),()),r1.2)) λp7=>(match p7 with | Sum.inl p8=>(some (Sum.inl p8)) | Sum.inr q8=>(some (Sum.inr q8)))) λp9=>(match p9 with | Sum.inl p10=>(cond (fits (List.length p10.1.1+List.length ([34]:List UInt8))) (some (((p10.1.1++([34]:List UInt8)),(0:Int),(0:Int),()),())) none) | Sum.inr q10=>(some ((([]:List UInt8),q10.1.2.1,(4:Int),()),()))))))
abbrev T410_0:Type:=((S5×S5×Int×Unit)×Unit)
abbrev R410_0:Type:=S88
def B410_0 (p:T410_0):Option (T410_0⊕R410_0):=(cond (decide (p.1.2.2.1<(p.1.1.length:Int))) (Option.bind (cond ((decide ((0:Int)<=p.1.2.2.1))&&(decide (p.1.2.2.1<(p.1.1.length:Int)))) (Option.bind (cond ((decide ((UInt8.toNat (65:UInt8))<=(UInt8.toNat (List.getD p.1.1 p.1.2.2.1.toNat 0))))&&(decide ((UInt8.toNat (List.getD p.1.1 p.1.2.2.1.toNat 0))<=(UInt8.toNat (90:UInt8))))) (some ((p.1.1,p.1.2.1,p.1.2.2.1,((List.getD p.1.1 p.1.2.2.1.toNat 0)+(32:UInt8)),()),())) (some ((p.1.1,p.1.2.1,p.1.2.2.1,(List.getD p.1.1 p.1.2.2.1.toNat 0),()),()))) λp1=>(cond (fits (List.length p1.1.2.1+List.length ([p1.1.2.2.2.1]:List UInt8))) (some ((p1.1.1,(p1.1.2.1++([p1.1.2.2.2.1]:List UInt8)),p1.1.2.2.1,()),())) none)) none) λp2=>(some (Sum.inl ((p2.1.1,p2.1.2.1,(zX (p2.1.2.2.1+(1:Int))),()),())))) (some (Sum.inr ((p.1.2.1,()),()))))
def L410_0 (p:T410_0):Option R410_0:=zP B410_0 p
def F410 (p:uR×Unit):Option uR:=(Option.bind (Option.bind (L410_0 ((p.1.1,([]:List UInt8),(0:Int),()),())) λp3=>(some p3)) λp4=>(some p4.1))
def F380 (p:uR×Unit):Option uR:=(Option.bind (F410 p) λr1=>(cond (decide (r1.1=([105,110,98,111,120]:List UInt8))) (some (([73,78,66,79,88]:List UInt8),())) (some p.1)))
def F366 (p:uR×Unit):Option S61:=(Option.bind (F379 p) λr1=>(cond (((decide ((1:Int)<=(p.1.1.length:Int)))&&(decide ((p.1.1.length:Int)<=(24:Int))))&&(decide (r1.1.2.2.1=(0:Int)))) (Option.bind (F380 p) λr2=>(some ((decide (r2.1=p.1.1)),()))) (some (false,()))))
abbrev T367_0:Type:=(S73×S102)
abbrev R367_0:Type:=(S43⊕S76)
def B367_0 (p:T367_0):Option (T367_0⊕R367_0):=(cond (decide (p.1.2.1<(p.2.1.2.2.2.1.length:Int))) (Option.bind (cond ((decide ((0:Int)<=p.1.2.1))&&(decide (p.1.2.1<(p.2.1.2.2.2.1.length:Int)))) (some (((),p.1.2.1,(),()),(p.2.1,((List.getD p.2.1.2.2.2.1 p.1.2.1.toNat xV).1,(List.getD p.2.1.2.2.2.1 p.1.2.1.toNat xV).2.1,(List.getD p.2.1.2.2.2.1 p.1.2.1.toNat xV).2.2.1,()),()))) none) λp1=>(Option.bind (cond (((decide ((0:Int)<=(zX (p1.1.2.1-(1:Int)))))&&(decide ((zX (p1.1.2.1-(1:Int)))<(p1.2.1.2.2.2.1.length:Int))))||(!((decide ((0:Int)<p1.1.2.1))&&(!((decide (p1.2.2.1.1<(1:Int)))||(decide (p1.2.1.2.2.1<=p1.2.2.1.1))))))) (some (((),p1.1.2.1,(),(((decide (p1.2.2.1.1<(1:Int)))||(decide (p1.2.1.2.2.1<=p1.2.2.1.1)))||((decide ((0:Int)<p1.1.2.1))&&(decide (p1.2.2.1.1<=(List.getD p1.2.1.2.2.2.1 (Int.toNat (zX (p1.1.2.1-(1:Int)))) xV).1)))),()),p1.2)) none) λp2=>(cond p2.1.2.2.2.1 (some (Sum.inr (Sum.inr (((4:Int),()),())))) ((cond (decide ((UInt8.toNat (31:UInt8))<(UInt8.toNat p2.2.2.1.2.1))) (some (Sum.inr (Sum.inr (((2:Int),()),())))) (cond (decide ((600:Int)<(p2.2.2.1.2.2.1.length:Int))) (some (Sum.inr (Sum.inr (((6:Int),()),())))) (some (Sum.inl (((),(zX (p2.1.2.1+(1:Int))),()),(p2.2.1,())))))))))) (some (Sum.inr (Sum.inl ((),())))))
def L367_0 (p:T367_0):Option R367_0:=zP B367_0 p
def F367 (p:S102×Unit):Option xu:=(cond ((((decide (p.1.1.2.1<(1:Int)))||(decide ((4294967295:Int)<p.1.1.2.1)))||(decide (p.1.1.2.2.1<(1:Int))))||(decide ((4294967295:Int)<p.1.1.2.2.1))) (some ((2:Int),())) (cond (decide ((32:Int)<(p.1.1.2.2.2.1.length:Int))) (some ((8:Int),())) (Option.bind (Option.bind (L367_0 (((),(0:Int),()),p.1)) λp4=>(match p4 with | Sum.inl _p5=>(some (Sum.inl ((),()))) | Sum.inr q5=>(some (Sum.inr q5)))) λp6=>(match p6 with | Sum.inl _p7=>(some ((0:Int),())) | Sum.inr q7=>(some q7.1)))))
abbrev T368_0:Type:=(S68×S102)
abbrev R368_0:Type:=S76
def B368_0 (p:T368_0):Option (T368_0⊕R368_0):=(cond (decide (p.1.2.2.1<(p.2.1.2.2.2.1.length:Int))) (Option.bind (cond ((decide ((0:Int)<=p.1.2.2.1))&&(decide (p.1.2.2.1<(p.2.1.2.2.2.1.length:Int)))) (some (((),(zX (p.1.2.1+(((List.length (List.getD p.2.1.2.2.2.1 p.1.2.2.1.toNat xV).2.2.1):Nat):Int))),p.1.2.2),p.2)) none) λp1=>((some (Sum.inl (((),p1.1.2.1,(zX (p1.1.2.2.1+(1:Int))),()),p1.2))))) (some (Sum.inr ((p.1.2.1,()),()))))
def L368_0 (p:T368_0):Option R368_0:=zP B368_0 p
def F368 (p:S102×Unit):Option xu:=(Option.bind (Option.bind (L368_0 (((),(0:Int),(0:Int),()),p.1)) λp3=>(some p3)) λp4=>(some p4.1))
abbrev T347_0:Type:=((Unit×Bool×Int×Int×Int×Unit)×(S32×Unit))
abbrev R347_0:Type:=(((Bool×Int×Int×Unit)×Unit)⊕S76)
def uN (p:T347_0):Option (T347_0⊕R347_0):=(cond (decide (p.1.2.2.2.2.1<(p.2.1.2.2.1.length:Int))) (Option.bind (cond ((decide ((0:Int)<=p.1.2.2.2.2.1))&&(decide (p.1.2.2.2.2.1<(p.2.1.2.2.1.length:Int)))) (some (((),p.1.2.1,p.1.2.2.1,p.1.2.2.2.1,p.1.2.2.2.2.1,(),()),(p.2.1,((List.getD p.2.1.2.2.1 p.1.2.2.2.2.1.toNat yz).1,(List.getD p.2.1.2.2.1 p.1.2.2.2.2.1.toNat yz).2.1,(List.getD p.2.1.2.2.1 p.1.2.2.2.2.1.toNat yz).2.2.1,(List.getD p.2.1.2.2.1 p.1.2.2.2.2.1.toNat yz).2.2.2.1,()),()))) none) λp2=>(Option.bind (Option.bind (F366 ((p2.2.2.1.1,()),())) λr3=>(cond (((decide ((0:Int)<=(zX (p2.1.2.2.2.2.1-(1:Int)))))&&(decide ((zX (p2.1.2.2.2.2.1-(1:Int)))<(p2.2.1.2.2.1.length:Int))))||(!((decide ((0:Int)<p2.1.2.2.2.2.1))&&(!(!r3.1))))) (some (((),p2.1.2.1,p2.1.2.2.1,p2.1.2.2.2.1,p2.1.2.2.2.2.1,(),((!r3.1)||((decide ((0:Int)<p2.1.2.2.2.2.1))&&((Go.Op.bytesLess p2.2.2.1.1 (List.getD p2.2.1.2.2.1 (Int.toNat (zX (p2.1.2.2.2.2.1-(1:Int)))) yz).1)||(decide (p2.2.2.1.1=(List.getD p2.2.1.2.2.1 (Int.toNat (zX (p2.1.2.2.2.2.1-(1:Int)))) yz).1))))),()),(p2.2.1,(p2.2.2.1.1,p2.2.2.1.2),()))) none)) λp4=>(cond p4.1.2.2.2.2.2.2.1 (some (Sum.inr (Sum.inr (((4:Int),()),())))) (Option.bind (Option.bind (F367 (p4.2.2,())) λr5=>(some (((),p4.1.2.1,p4.1.2.2.1,p4.1.2.2.2.1,p4.1.2.2.2.2.1,(),r5),p4.2))) λp6=>((cond (!(decide (p6.1.2.2.2.2.2.2.1=(0:Int)))) (some (Sum.inr (Sum.inr (p6.1.2.2.2.2.2.2,())))) ((cond (decide (p6.2.1.2.1<p6.2.2.1.2.1)) (some (Sum.inr (Sum.inr (((2:Int),()),())))) (((Option.bind (Option.bind (F368 (p6.2.2,())) λr11=>(some (((),(p6.1.2.1||(decide (p6.2.2.1.1=([73,78,66,79,88]:List UInt8)))),(zX (p6.1.2.2.1+(p6.2.2.1.2.2.2.1.length:Int))),(zX (p6.1.2.2.2.1+r11.1)),p6.1.2.2.2.2.1,()),(p6.2.1,())))) λp12=>((some (Sum.inl (((),p12.1.2.1,p12.1.2.2.1,p12.1.2.2.2.1,(zX (p12.1.2.2.2.2.1+(1:Int))),()),(p12.2.1,())))))))))))))))) (some (Sum.inr (Sum.inl ((p.1.2.1,p.1.2.2.1,p.1.2.2.2.1,()),())))))
def L347_0 (p:T347_0):Option R347_0:=zP uN p
def F347 (p:(S32×Unit)×Unit):Option xu:=(Option.bind (F365 ((p.1.1.1,()),())) λr1=>(cond (!r1.1) (some ((4:Int),())) (cond ((decide (p.1.1.2.1<(1:Int)))||(decide ((4294967295:Int)<p.1.1.2.1))) (some ((2:Int),())) (cond ((decide ((p.1.1.2.2.1.length:Int)<(1:Int)))||(decide ((6:Int)<(p.1.1.2.2.1.length:Int)))) (some ((8:Int),())) (Option.bind (Option.bind (L347_0 (((),false,(0:Int),(0:Int),(0:Int),()),((p.1.1.1,p.1.1.2),()))) λp14=>(match p14 with | Sum.inl p15=>(some (Sum.inl p15)) | Sum.inr q15=>(some (Sum.inr q15)))) λp16=>(match p16 with | Sum.inl p17=>(cond (!p17.1.1) (some ((4:Int),())) (cond ((decide ((40:Int)<p17.1.2.1))||(decide ((1200:Int)<p17.1.2.2.1))) (some ((8:Int),())) (some ((0:Int),())))) | Sum.inr q17=>(some q17.1)))))))
abbrev T348_0:Type:=((Unit×Int×Int×Unit×Int×Unit)×(S5×S5×Unit))
abbrev R348_0:Type:=(S71×(S5×S5×Unit))
def B348_0 (p:T348_0):Option (T348_0⊕R348_0):=(cond (decide (p.1.2.2.2.2.1<p.1.2.2.1)) (cond (zC ((List.length ([(uk (Int.tmod p.1.2.1 (256:Int)))]:List UInt8))+(List.length p.2.2.1)) 1) (some (Sum.inl (((),(zX (Int.tdiv p.1.2.1 (256:Int))),p.1.2.2.1,(),(zX (p.1.2.2.2.2.1+(1:Int))),()),(p.2.1,(([(uk (Int.tmod p.1.2.1 (256:Int)))]:List UInt8)++p.2.2.1),())))) none) (some (Sum.inr (((),(),()),p.2))))
def L348_0 (p:T348_0):Option R348_0:=zP B348_0 p
def F348 (p:S68×uR):Option (Unit×uR):=(Option.bind (Option.bind (L348_0 (((),p.1.2.1,p.1.2.2.1,(),(0:Int),()),(p.2.1,([]:List UInt8),()))) λp1=>(some (((),(),()),p1.2))) λp2=>(cond (zC ((List.length p2.2.1)+(List.length p2.2.2.1)) 1) (some ((),((p2.2.1++p2.2.2.1),()))) none))
def F349 (p:(Unit×S5×Unit)×uR):Option (Unit×uR):=(Option.bind (F348 (((),(p.1.2.1.length:Int),(1:Int),()),p.2)) λr1=>(cond (zC ((List.length r1.2.1)+(List.length p.1.2.1)) 1) (some ((),((r1.2.1++p.1.2.1),()))) none))
abbrev T334_1:Type:=((Unit×Unit×Int×Unit×Int×Unit)×(S32×S5×S20×Unit))
abbrev R334_1:Type:=(tO×(S32×S5×Unit))
def B334_1 (p:T334_1):Option (T334_1⊕R334_1):=(cond (decide (p.1.2.2.2.2.1<(p.2.2.2.1.2.2.2.1.length:Int))) (Option.bind (cond ((decide ((0:Int)<=p.1.2.2.2.2.1))&&(decide (p.1.2.2.2.2.1<(p.2.2.2.1.2.2.2.1.length:Int)))) (some (((),(),p.1.2.2.1,(),p.1.2.2.2.2.1,(),()),(p.2.1,p.2.2.1,p.2.2.2.1,((List.getD p.2.2.2.1.2.2.2.1 p.1.2.2.2.2.1.toNat xV).1,(List.getD p.2.2.2.1.2.2.2.1 p.1.2.2.2.2.1.toNat xV).2.1,(List.getD p.2.2.2.1.2.2.2.1 p.1.2.2.2.2.1.toNat xV).2.2.1,()),()))) none) λp13=>(Option.bind (agr (Option.bind (F348 (((),p13.2.2.2.2.1.1,(4:Int),()),(p13.2.2.1,()))) λr14=>(cond (decide (p13.2.2.2.2.1.2.1=p13.2.2.2.2.1.2.1)) (cond (zC ((List.length r14.2.1)+(List.length ([p13.2.2.2.2.1.2.1]:List UInt8))) 1) (some (p13.1,(p13.2.1,(r14.2.1++([p13.2.2.2.2.1.2.1]:List UInt8)),p13.2.2.2))) none) none)) (Option.bind (F348 (((),p13.2.2.2.2.1.1,(4:Int),()),(p13.2.2.1,()))) λr15=>(cond (decide (p13.2.2.2.2.1.2.1=p13.2.2.2.2.1.2.1)) (cond (zC ((List.length r15.2.1)+(List.length ([p13.2.2.2.2.1.2.1]:List UInt8))) 1) (some (p13.1,(p13.2.1,(r15.2.1++([p13.2.2.2.2.1.2.1]:List UInt8)),p13.2.2.2))) none) none))) λp16=>(Option.bind (agr (Option.bind (F348 (((),(p16.2.2.2.2.1.2.2.1.length:Int),(2:Int),()),(p16.2.2.1,()))) λr17=>(cond (zC ((List.length r17.2.1)+(List.length p16.2.2.2.2.1.2.2.1)) 1) (some (((),(),p16.1.2.2.1,(),p16.1.2.2.2.2.1,()),(p16.2.1,(r17.2.1++p16.2.2.2.2.1.2.2.1),p16.2.2.2.1,()))) none)) (Option.bind (F348 (((),(p16.2.2.2.2.1.2.2.1.length:Int),(2:Int),()),(p16.2.2.1,()))) λr18=>(cond (zC ((List.length r18.2.1)+(List.length p16.2.2.2.2.1.2.2.1)) 1) (some (((),(),p16.1.2.2.1,(),p16.1.2.2.2.2.1,()),(p16.2.1,(r18.2.1++p16.2.2.2.2.1.2.2.1),p16.2.2.2.1,()))) none))) λp19=>((some (Sum.inl (((),(),p19.1.2.2.1,(),(zX (p19.1.2.2.2.2.1+(1:Int))),()),(p19.2.1,p19.2.2.1,p19.2.2.2.1,())))))))) (some (Sum.inr (((),(),p.1.2.2.1,()),(p.2.1,p.2.2.1,())))))
def L334_1 (p:T334_1):Option R334_1:=zP B334_1 p
abbrev T334_0:Type:=(tO×(S32×S5×Unit))
abbrev R334_0:Type:=(S43×uR)
def B334_0 (p:T334_0):Option (T334_0⊕R334_0):=(cond (decide (p.1.2.2.1<(p.2.1.2.2.1.length:Int))) (Option.bind (Option.bind (cond ((decide ((0:Int)<=p.1.2.2.1))&&(decide (p.1.2.2.1<(p.2.1.2.2.1.length:Int)))) (some (((),(),p.1.2.2.1,(),()),(p.2.1,p.2.2.1,((List.getD p.2.1.2.2.1 p.1.2.2.1.toNat yz).1,(List.getD p.2.1.2.2.1 p.1.2.2.1.toNat yz).2.1,(List.getD p.2.1.2.2.1 p.1.2.2.1.toNat yz).2.2.1,(List.getD p.2.1.2.2.1 p.1.2.2.1.toNat yz).2.2.2.1,()),()))) none) λp6=>(Option.bind (Option.bind (F349 (((),p6.2.2.2.1.1,()),(p6.2.2.1,()))) λr7=>(cond (decide (p6.2.2.2.1.2.2.1=p6.2.2.2.1.2.2.1)) (cond (decide (p6.2.2.2.1.2.1=p6.2.2.2.1.2.1)) (Option.bind (F348 (((),p6.2.2.2.1.2.1,(4:Int),()),r7.2)) λr8=>(cond (decide (p6.2.2.2.1.2.2.1=p6.2.2.2.1.2.2.1)) (Option.bind (F348 (((),p6.2.2.2.1.2.2.1,(4:Int),()),r8.2)) λr9=>(some (p6.1,(p6.2.1,r9.2.1,(p6.2.2.2.1.1,p6.2.2.2.1.2),())))) none)) none) none)) λp10=>(Option.bind (cond (zC ((List.length p10.2.2.1)+(List.length ([(uk (p10.2.2.2.1.2.2.2.1.length:Int))]:List UInt8))) 1) (some (p10.1,(p10.2.1,(p10.2.2.1++([(uk (p10.2.2.2.1.2.2.2.1.length:Int))]:List UInt8)),p10.2.2.2))) none) λp11=>((Option.bind (L334_1 (((),(),p11.1.2.2.1,(),(0:Int),()),p11.2)) λp21=>(some p21)))))) λp22=>(some (Sum.inl (((),(),(zX (p22.1.2.2.1+(1:Int))),()),p22.2)))) (some (Sum.inr (((),()),p.2.2))))
def L334_0 (p:T334_0):Option R334_0:=zP B334_0 p
def F334 (p:(S32×Unit)×Unit):Option (S73×uR):=(Option.bind (F347 (((p.1.1.1,p.1.1.2),()),())) λr1=>(cond (!(decide (r1.1=(0:Int)))) (some (((),r1),(([]:List UInt8),()))) (Option.bind (F349 (((),p.1.1.1,()),(([]:List UInt8),()))) λr2=>(cond (decide (p.1.1.2.1=p.1.1.2.1)) (Option.bind (F348 (((),p.1.1.2.1,(4:Int),()),r2.2)) λr3=>(Option.bind (cond (zC ((List.length r3.2.1)+(List.length ([(uk (p.1.1.2.2.1.length:Int))]:List UInt8))) 1) (some (((),(),()),((p.1.1.1,p.1.1.2),(r3.2.1++([(uk (p.1.1.2.2.1.length:Int))]:List UInt8)),()))) none) λp4=>(Option.bind ((Option.bind (L334_0 (k50,p4.2)) λp23=>(some (((),()),p23.2)))) λp24=>(some (((),(0:Int),()),p24.2))))) none))))
def F426 (p:S73×(S74×Unit)):Option (Unit×(S74×S5×Unit)):=(cond (p.2.1.2.1||(decide ((p.2.1.1.length:Int)<p.1.2.1))) (some ((),((p.2.1.1,true,()),([]:List UInt8),()))) (cond ((decide ((0:Int)<=p.1.2.1))&&(decide (p.1.2.1<=(p.2.1.1.length:Int)))) (cond (zC (0+(List.length (List.take p.1.2.1.toNat p.2.1.1))) 1) (Option.bind (cond (((decide ((0:Int)<=p.1.2.1))&&(decide (p.1.2.1<=(p.2.1.1.length:Int))))&&(decide ((p.2.1.1.length:Int)<=(p.2.1.1.length:Int)))) (some (((),(),()),(((List.take ((Int.toNat (p.2.1.1.length:Int))-p.1.2.1.toNat) (List.drop p.1.2.1.toNat p.2.1.1)),p.2.1.2),(([]:List UInt8)++(List.take p.1.2.1.toNat p.2.1.1)),()))) none) λp1=>((some ((),p1.2)))) none) none))
abbrev T427_0:Type:=(S87×(S74×S5×Unit))
abbrev R427_0:Type:=(S73×(S74×Unit))
def B427_0 (p:T427_0):Option (T427_0⊕R427_0):=(cond (decide (p.1.2.2.2.1<(p.2.2.1.length:Int))) (Option.bind (cond ((decide ((0:Int)<=p.1.2.2.2.1))&&(decide (p.1.2.2.2.1<(p.2.2.1.length:Int)))) (some (((),(),(zX ((zX ((256:Int)*p.1.2.2.1))+((UInt8.toNat (List.getD p.2.2.1 p.1.2.2.2.1.toNat (0:UInt8)):Nat):Int))),p.1.2.2.2),(p.2.1,p.2.2))) none) λp2=>((some (Sum.inl (((),(),p2.1.2.2.1,(zX (p2.1.2.2.2.1+(1:Int))),()),p2.2))))) (some (Sum.inr (((),p.1.2.2.1,()),(p.2.1,())))))
def L427_0 (p:T427_0):Option R427_0:=zP B427_0 p
def F427 (p:S73×(S74×Unit)):Option (Int×(S74×Unit)):=(Option.bind (F426 p) λr1=>(Option.bind (Option.bind (L427_0 (((),(),(0:Int),(0:Int),()),r1.2)) λp4=>(some p4)) λp5=>(some (p5.1.2.1,p5.2))))
abbrev T399_1:Type:=((Unit×Unit×Unit×Int×Int×Unit×Int×Int×Unit)×(S53×S74×S42×S58×vI×vI×tN×Unit))
abbrev R399_1:Type:=((Unit×Unit×Unit×Int×Int×Unit×Unit)×(S53×S74×S42×S58×vI×vI×tN×Unit))
def uM (p:T399_1):Option (T399_1⊕R399_1):=(cond ((decide (p.1.2.2.2.2.2.2.2.1<p.1.2.2.2.2.2.2.1))&&(!p.2.2.1.2.1)) (Option.bind (F427 (((),(4:Int),()),(p.2.2.1,()))) λr10=>(Option.bind (F427 (((),(1:Int),()),r10.2)) λr11=>(Option.bind (F427 (((),(2:Int),()),r11.2)) λr12=>(Option.bind (F426 (((),r12.1,()),r12.2)) λr13=>(Option.bind (cond (zC ((List.length p.2.2.2.2.2.2.2.1)+(List.length ([(r10.1,((uk r11.1),r13.2.2))]:List S8))) 40) (some (((),(),(),p.1.2.2.2.1,p.1.2.2.2.2.1,p.1.2.2.2.2.2),(((),(),(),()),r13.2.1,p.2.2.2.1,p.2.2.2.2.1,p.2.2.2.2.2.1,p.2.2.2.2.2.2.1,(p.2.2.2.2.2.2.2.1++([(r10.1,((uk r11.1),r13.2.2))]:List S8)),()))) none) λp14=>((some (Sum.inl (((),(),(),p14.1.2.2.2.1,p14.1.2.2.2.2.1,(),p14.1.2.2.2.2.2.2.1,(zX (p14.1.2.2.2.2.2.2.2.1+(1:Int))),()),(((),(),(),()),p14.2.2)))))))))) (some (Sum.inr (((),(),(),p.1.2.2.2.1,p.1.2.2.2.2.1,(),()),(((),(),(),()),p.2.2.1,p.2.2.2)))))
def L399_1 (p:T399_1):Option R399_1:=zP uM p
abbrev T399_0:Type:=(S105×(S53×S74×S42×vI×vI×Unit))
abbrev R399_0:Type:=(S53×(S53×S74×S42×vI×vI×Unit))
def vN (p:T399_0):Option (T399_0⊕R399_0):=(cond ((decide (p.1.2.2.2.2.1<p.1.2.2.2.1))&&(!p.2.2.1.2.1)) (Option.bind (Option.bind (F427 (((),(1:Int),()),(p.2.2.1,()))) λr5=>(Option.bind (F426 (((),r5.1,()),r5.2)) λr6=>(Option.bind (F427 (((),(4:Int),()),(r6.2.1,()))) λr7=>(Option.bind (F427 (((),(4:Int),()),r7.2)) λr8=>(Option.bind (F427 (((),(1:Int),()),r8.2)) λr9=>(Option.bind (Option.bind (L399_1 (((),(),(),p.1.2.2.2.1,p.1.2.2.2.2.1,(),r9.1,(0:Int),()),(((),(),(),()),r9.2.1,p.2.2.2.1,(r6.2.2.1,r7.1,r8.1,(),()),p.2.2.2.2.1,p.2.2.2.2.2.1,([]:List S8),()))) λp16=>(some (p16.1,(((),(),(),()),p16.2.2)))) λp17=>(Option.bind (cond (zC ((List.length p17.2.2.2.2.2.2.1)+(List.length ([(p17.2.2.2.2.1.1,(p17.2.2.2.2.1.2.1,(p17.2.2.2.2.1.2.2.1,p17.2.2.2.2.2.2.2)))]:List S1))) 56) (some (((),(),(),p17.1.2.2.2.1,p17.1.2.2.2.2.1,()),(((),(),(),()),p17.2.2.1,p17.2.2.2.1,p17.2.2.2.2.2.1,(p17.2.2.2.2.2.2.1++([(p17.2.2.2.2.1.1,(p17.2.2.2.2.1.2.1,(p17.2.2.2.2.1.2.2.1,p17.2.2.2.2.2.2.2)))]:List S1)),()))) none) λp18=>(some (p18.1,(((),(),(),()),p18.2.2)))))))))) λp19=>(some (Sum.inl (((),(),(),p19.1.2.2.2.1,(zX (p19.1.2.2.2.2.1+(1:Int))),()),(((),(),(),()),p19.2.2))))) (some (Sum.inr (((),(),(),()),(((),(),(),()),p.2.2.1,p.2.2.2)))))
def L399_0 (p:T399_0):Option R399_0:=zP vN p
def F399 (p:uR×Unit):Option ((S42×Int×Unit)×(vI×Unit)):=(Option.bind (F427 (((),(1:Int),()),((p.1.1,false,()),()))) λr1=>(Option.bind (F426 (((),r1.1,()),r1.2)) λr2=>(Option.bind (F427 (((),(4:Int),()),(r2.2.1,()))) λr3=>(Option.bind (F427 (((),(1:Int),()),r3.2)) λr4=>(Option.bind (Option.bind (L399_0 (((),(),(),r4.1,(0:Int),()),(((),(),(),()),r4.2.1,(r2.2.2.1,r3.1,(),()),([]:List S1),([]:List S1),()))) λp20=>(some (((),(),(),()),(((),(),(),()),p20.2.2)))) λp21=>(cond p21.2.2.1.2.1 (some ((k49,(3:Int),()),(([]:List S1),()))) (cond (decide ((0:Int)<(p21.2.2.1.1.length:Int))) (some ((k49,(4:Int),()),(([]:List S1),()))) (Option.bind (F347 (((p21.2.2.2.1.1,p21.2.2.2.1.2.1,p21.2.2.2.2.2),()),())) λr22=>(cond (!(decide (r22.1=(0:Int)))) (some ((k49,r22),(([]:List S1),()))) (some ((p21.2.2.2.1,(0:Int),()),p21.2.2.2.2.2)))))))))))
def uS (p:(S25×Unit)×Unit):Option xu:=(cond ((decide (p.1.1.1<(1:Int)))||(decide ((9:Int)<p.1.1.1))) (some ((14:Int),())) (Option.bind (F365 ((p.1.1.2.1,()),())) λr1=>(cond (!r1.1) (some ((4:Int),())) (cond ((decide ((2:Int)<=p.1.1.1))&&(decide (p.1.1.1<=(7:Int)))) (Option.bind (F366 ((p.1.1.2.2.1,()),())) λr2=>(cond (!((!r2.1)||((!((decide ((2:Int)<=p.1.1.1))&&(decide (p.1.1.1<=(7:Int)))))&&(decide ((0:Int)<(p.1.1.2.2.1.length:Int)))))) (cond (decide (p.1.1.1=(7:Int))) (Option.bind (F366 ((p.1.1.2.2.2.1,()),())) λr3=>(cond ((!r3.1)||((!(decide (p.1.1.1=(7:Int))))&&(decide ((0:Int)<(p.1.1.2.2.2.1.length:Int))))) (some ((4:Int),())) (Option.bind (cond ((decide (p.1.1.1=(5:Int)))||(decide (p.1.1.1=(6:Int)))) (some (((),((decide ((1:Int)<=p.1.1.2.2.2.2.1))&&(decide (p.1.1.2.2.2.2.1<=(4294967295:Int)))),()),p.1)) (some (((),(decide (p.1.1.2.2.2.2.1=(0:Int))),()),p.1))) λp4=>(Option.bind (cond ((decide (p4.2.1.1=(8:Int)))||(decide (p4.2.1.1=(9:Int)))) (some (((),p4.1.2.1,((decide (p4.2.1.2.2.2.2.2.1=(0:Int)))||((decide (p4.2.1.1=(5:Int)))&&((decide (p4.2.1.2.2.2.2.2.1=(1:Int)))||(decide (p4.2.1.2.2.2.2.2.1=(2:Int)))))),((decide (p4.2.1.2.2.2.2.2.2.1=(0:UInt8)))||(((decide (p4.2.1.1=(5:Int)))||(decide (p4.2.1.1=(4:Int))))&&(decide ((UInt8.toNat p4.2.1.2.2.2.2.2.2.1)<(UInt8.toNat (32:UInt8)))))),((decide (p4.2.1.2.2.2.2.2.2.2.1=(0:Int)))||(((decide (p4.2.1.1=(9:Int)))&&(decide ((0:Int)<p4.2.1.2.2.2.2.2.2.2.1)))&&(decide (p4.2.1.2.2.2.2.2.2.2.1<(4:Int))))),((decide ((1:Int)<=p4.2.1.2.2.2.2.2.2.2.2.1))&&(decide (p4.2.1.2.2.2.2.2.2.2.2.1<=(4294967295:Int)))),()),p4.2)) (some (((),p4.1.2.1,((decide (p4.2.1.2.2.2.2.2.1=(0:Int)))||((decide (p4.2.1.1=(5:Int)))&&((decide (p4.2.1.2.2.2.2.2.1=(1:Int)))||(decide (p4.2.1.2.2.2.2.2.1=(2:Int)))))),((decide (p4.2.1.2.2.2.2.2.2.1=(0:UInt8)))||(((decide (p4.2.1.1=(5:Int)))||(decide (p4.2.1.1=(4:Int))))&&(decide ((UInt8.toNat p4.2.1.2.2.2.2.2.2.1)<(UInt8.toNat (32:UInt8)))))),((decide (p4.2.1.2.2.2.2.2.2.2.1=(0:Int)))||(((decide (p4.2.1.1=(9:Int)))&&(decide ((0:Int)<p4.2.1.2.2.2.2.2.2.2.1)))&&(decide (p4.2.1.2.2.2.2.2.2.2.1<(4:Int))))),(decide (p4.2.1.2.2.2.2.2.2.2.2.1=(0:Int))),()),p4.2))) λp5=>(cond (((((!p5.1.2.1)||(!p5.1.2.2.1))||(!p5.1.2.2.2.1))||(!p5.1.2.2.2.2.1))||(!p5.1.2.2.2.2.2.1)) (some ((2:Int),())) (cond ((decide (p5.2.1.1=(4:Int)))&&(decide ((600:Int)<(p5.2.1.2.2.2.2.2.2.2.2.2.1.length:Int)))) (some ((6:Int),())) (cond (decide (p5.2.1.1=(8:Int))) (Option.bind (F399 (p5.2.1.2.2.2.2.2.2.2.2.2,())) λr6=>(cond (!(decide (r6.1.2.1=(0:Int)))) (some r6.1.2) (cond (!(decide (r6.1.1.1=p5.2.1.2.1))) (some ((4:Int),())) (some ((0:Int),()))))) (cond ((!(decide (p5.2.1.1=(4:Int))))&&(decide ((0:Int)<(p5.2.1.2.2.2.2.2.2.2.2.2.1.length:Int)))) (some ((2:Int),())) (some ((0:Int),())))))))))) (cond ((!(decide (p.1.1.1=(7:Int))))&&(decide ((0:Int)<(p.1.1.2.2.2.1.length:Int)))) (some ((4:Int),())) (Option.bind (cond ((decide (p.1.1.1=(5:Int)))||(decide (p.1.1.1=(6:Int)))) (some (((),((decide ((1:Int)<=p.1.1.2.2.2.2.1))&&(decide (p.1.1.2.2.2.2.1<=(4294967295:Int)))),()),p.1)) (some (((),(decide (p.1.1.2.2.2.2.1=(0:Int))),()),p.1))) λp7=>(Option.bind (cond ((decide (p7.2.1.1=(8:Int)))||(decide (p7.2.1.1=(9:Int)))) (some (((),p7.1.2.1,((decide (p7.2.1.2.2.2.2.2.1=(0:Int)))||((decide (p7.2.1.1=(5:Int)))&&((decide (p7.2.1.2.2.2.2.2.1=(1:Int)))||(decide (p7.2.1.2.2.2.2.2.1=(2:Int)))))),((decide (p7.2.1.2.2.2.2.2.2.1=(0:UInt8)))||(((decide (p7.2.1.1=(5:Int)))||(decide (p7.2.1.1=(4:Int))))&&(decide ((UInt8.toNat p7.2.1.2.2.2.2.2.2.1)<(UInt8.toNat (32:UInt8)))))),((decide (p7.2.1.2.2.2.2.2.2.2.1=(0:Int)))||(((decide (p7.2.1.1=(9:Int)))&&(decide ((0:Int)<p7.2.1.2.2.2.2.2.2.2.1)))&&(decide (p7.2.1.2.2.2.2.2.2.2.1<(4:Int))))),((decide ((1:Int)<=p7.2.1.2.2.2.2.2.2.2.2.1))&&(decide (p7.2.1.2.2.2.2.2.2.2.2.1<=(4294967295:Int)))),()),p7.2)) (some (((),p7.1.2.1,((decide (p7.2.1.2.2.2.2.2.1=(0:Int)))||((decide (p7.2.1.1=(5:Int)))&&((decide (p7.2.1.2.2.2.2.2.1=(1:Int)))||(decide (p7.2.1.2.2.2.2.2.1=(2:Int)))))),((decide (p7.2.1.2.2.2.2.2.2.1=(0:UInt8)))||(((decide (p7.2.1.1=(5:Int)))||(decide (p7.2.1.1=(4:Int))))&&(decide ((UInt8.toNat p7.2.1.2.2.2.2.2.2.1)<(UInt8.toNat (32:UInt8)))))),((decide (p7.2.1.2.2.2.2.2.2.2.1=(0:Int)))||(((decide (p7.2.1.1=(9:Int)))&&(decide ((0:Int)<p7.2.1.2.2.2.2.2.2.2.1)))&&(decide (p7.2.1.2.2.2.2.2.2.2.1<(4:Int))))),(decide (p7.2.1.2.2.2.2.2.2.2.2.1=(0:Int))),()),p7.2))) λp8=>(cond (((((!p8.1.2.1)||(!p8.1.2.2.1))||(!p8.1.2.2.2.1))||(!p8.1.2.2.2.2.1))||(!p8.1.2.2.2.2.2.1)) (some ((2:Int),())) (cond ((decide (p8.2.1.1=(4:Int)))&&(decide ((600:Int)<(p8.2.1.2.2.2.2.2.2.2.2.2.1.length:Int)))) (some ((6:Int),())) (cond (decide (p8.2.1.1=(8:Int))) (Option.bind (F399 (p8.2.1.2.2.2.2.2.2.2.2.2,())) λr9=>(cond (!(decide (r9.1.2.1=(0:Int)))) (some r9.1.2) (cond (!(decide (r9.1.1.1=p8.2.1.2.1))) (some ((4:Int),())) (some ((0:Int),()))))) (cond ((!(decide (p8.2.1.1=(4:Int))))&&(decide ((0:Int)<(p8.2.1.2.2.2.2.2.2.2.2.2.1.length:Int)))) (some ((2:Int),())) (some ((0:Int),())))))))))) (some ((4:Int),())))) (cond (!((!((decide ((2:Int)<=p.1.1.1))&&(decide (p.1.1.1<=(7:Int)))))&&(decide ((0:Int)<(p.1.1.2.2.1.length:Int))))) (cond (decide (p.1.1.1=(7:Int))) (Option.bind (F366 ((p.1.1.2.2.2.1,()),())) λr10=>(cond ((!r10.1)||((!(decide (p.1.1.1=(7:Int))))&&(decide ((0:Int)<(p.1.1.2.2.2.1.length:Int))))) (some ((4:Int),())) (Option.bind (cond ((decide (p.1.1.1=(5:Int)))||(decide (p.1.1.1=(6:Int)))) (some (((),((decide ((1:Int)<=p.1.1.2.2.2.2.1))&&(decide (p.1.1.2.2.2.2.1<=(4294967295:Int)))),()),p.1)) (some (((),(decide (p.1.1.2.2.2.2.1=(0:Int))),()),p.1))) λp11=>(Option.bind (cond ((decide (p11.2.1.1=(8:Int)))||(decide (p11.2.1.1=(9:Int)))) (some (((),p11.1.2.1,((decide (p11.2.1.2.2.2.2.2.1=(0:Int)))||((decide (p11.2.1.1=(5:Int)))&&((decide (p11.2.1.2.2.2.2.2.1=(1:Int)))||(decide (p11.2.1.2.2.2.2.2.1=(2:Int)))))),((decide (p11.2.1.2.2.2.2.2.2.1=(0:UInt8)))||(((decide (p11.2.1.1=(5:Int)))||(decide (p11.2.1.1=(4:Int))))&&(decide ((UInt8.toNat p11.2.1.2.2.2.2.2.2.1)<(UInt8.toNat (32:UInt8)))))),((decide (p11.2.1.2.2.2.2.2.2.2.1=(0:Int)))||(((decide (p11.2.1.1=(9:Int)))&&(decide ((0:Int)<p11.2.1.2.2.2.2.2.2.2.1)))&&(decide (p11.2.1.2.2.2.2.2.2.2.1<(4:Int))))),((decide ((1:Int)<=p11.2.1.2.2.2.2.2.2.2.2.1))&&(decide (p11.2.1.2.2.2.2.2.2.2.2.1<=(4294967295:Int)))),()),p11.2)) (some (((),p11.1.2.1,((decide (p11.2.1.2.2.2.2.2.1=(0:Int)))||((decide (p11.2.1.1=(5:Int)))&&((decide (p11.2.1.2.2.2.2.2.1=(1:Int)))||(decide (p11.2.1.2.2.2.2.2.1=(2:Int)))))),((decide (p11.2.1.2.2.2.2.2.2.1=(0:UInt8)))||(((decide (p11.2.1.1=(5:Int)))||(decide (p11.2.1.1=(4:Int))))&&(decide ((UInt8.toNat p11.2.1.2.2.2.2.2.2.1)<(UInt8.toNat (32:UInt8)))))),((decide (p11.2.1.2.2.2.2.2.2.2.1=(0:Int)))||(((decide (p11.2.1.1=(9:Int)))&&(decide ((0:Int)<p11.2.1.2.2.2.2.2.2.2.1)))&&(decide (p11.2.1.2.2.2.2.2.2.2.1<(4:Int))))),(decide (p11.2.1.2.2.2.2.2.2.2.2.1=(0:Int))),()),p11.2))) λp12=>(cond (((((!p12.1.2.1)||(!p12.1.2.2.1))||(!p12.1.2.2.2.1))||(!p12.1.2.2.2.2.1))||(!p12.1.2.2.2.2.2.1)) (some ((2:Int),())) (cond ((decide (p12.2.1.1=(4:Int)))&&(decide ((600:Int)<(p12.2.1.2.2.2.2.2.2.2.2.2.1.length:Int)))) (some ((6:Int),())) (cond (decide (p12.2.1.1=(8:Int))) (Option.bind (F399 (p12.2.1.2.2.2.2.2.2.2.2.2,())) λr13=>(cond (!(decide (r13.1.2.1=(0:Int)))) (some r13.1.2) (cond (!(decide (r13.1.1.1=p12.2.1.2.1))) (some ((4:Int),())) (some ((0:Int),()))))) (cond ((!(decide (p12.2.1.1=(4:Int))))&&(decide ((0:Int)<(p12.2.1.2.2.2.2.2.2.2.2.2.1.length:Int)))) (some ((2:Int),())) (some ((0:Int),())))))))))) (cond ((!(decide (p.1.1.1=(7:Int))))&&(decide ((0:Int)<(p.1.1.2.2.2.1.length:Int)))) (some ((4:Int),())) (Option.bind (cond ((decide (p.1.1.1=(5:Int)))||(decide (p.1.1.1=(6:Int)))) (some (((),((decide ((1:Int)<=p.1.1.2.2.2.2.1))&&(decide (p.1.1.2.2.2.2.1<=(4294967295:Int)))),()),p.1)) (some (((),(decide (p.1.1.2.2.2.2.1=(0:Int))),()),p.1))) λp14=>(Option.bind (cond ((decide (p14.2.1.1=(8:Int)))||(decide (p14.2.1.1=(9:Int)))) (some (((),p14.1.2.1,((decide (p14.2.1.2.2.2.2.2.1=(0:Int)))||((decide (p14.2.1.1=(5:Int)))&&((decide (p14.2.1.2.2.2.2.2.1=(1:Int)))||(decide (p14.2.1.2.2.2.2.2.1=(2:Int)))))),((decide (p14.2.1.2.2.2.2.2.2.1=(0:UInt8)))||(((decide (p14.2.1.1=(5:Int)))||(decide (p14.2.1.1=(4:Int))))&&(decide ((UInt8.toNat p14.2.1.2.2.2.2.2.2.1)<(UInt8.toNat (32:UInt8)))))),((decide (p14.2.1.2.2.2.2.2.2.2.1=(0:Int)))||(((decide (p14.2.1.1=(9:Int)))&&(decide ((0:Int)<p14.2.1.2.2.2.2.2.2.2.1)))&&(decide (p14.2.1.2.2.2.2.2.2.2.1<(4:Int))))),((decide ((1:Int)<=p14.2.1.2.2.2.2.2.2.2.2.1))&&(decide (p14.2.1.2.2.2.2.2.2.2.2.1<=(4294967295:Int)))),()),p14.2)) (some (((),p14.1.2.1,((decide (p14.2.1.2.2.2.2.2.1=(0:Int)))||((decide (p14.2.1.1=(5:Int)))&&((decide (p14.2.1.2.2.2.2.2.1=(1:Int)))||(decide (p14.2.1.2.2.2.2.2.1=(2:Int)))))),((decide (p14.2.1.2.2.2.2.2.2.1=(0:UInt8)))||(((decide (p14.2.1.1=(5:Int)))||(decide (p14.2.1.1=(4:Int))))&&(decide ((UInt8.toNat p14.2.1.2.2.2.2.2.2.1)<(UInt8.toNat (32:UInt8)))))),((decide (p14.2.1.2.2.2.2.2.2.2.1=(0:Int)))||(((decide (p14.2.1.1=(9:Int)))&&(decide ((0:Int)<p14.2.1.2.2.2.2.2.2.2.1)))&&(decide (p14.2.1.2.2.2.2.2.2.2.1<(4:Int))))),(decide (p14.2.1.2.2.2.2.2.2.2.2.1=(0:Int))),()),p14.2))) λp15=>(cond (((((!p15.1.2.1)||(!p15.1.2.2.1))||(!p15.1.2.2.2.1))||(!p15.1.2.2.2.2.1))||(!p15.1.2.2.2.2.2.1)) (some ((2:Int),())) (cond ((decide (p15.2.1.1=(4:Int)))&&(decide ((600:Int)<(p15.2.1.2.2.2.2.2.2.2.2.2.1.length:Int)))) (some ((6:Int),())) (cond (decide (p15.2.1.1=(8:Int))) (Option.bind (F399 (p15.2.1.2.2.2.2.2.2.2.2.2,())) λr16=>(cond (!(decide (r16.1.2.1=(0:Int)))) (some r16.1.2) (cond (!(decide (r16.1.1.1=p15.2.1.2.1))) (some ((4:Int),())) (some ((0:Int),()))))) (cond ((!(decide (p15.2.1.1=(4:Int))))&&(decide ((0:Int)<(p15.2.1.2.2.2.2.2.2.2.2.2.1.length:Int)))) (some ((2:Int),())) (some ((0:Int),())))))))))) (some ((4:Int),())))))))
abbrev T400_0:Type:=((Bool×S5×Int×Unit)×S94)
abbrev R400_0:Type:=((Bool×S5×Int×Unit)×S94)
def B400_0 (p:T400_0):Option (T400_0⊕R400_0):=(cond p.1.1 (cond (p.1.1||(!(decide (p.1.2.2.1<(p.2.1.1.length:Int))))) (cond (((decide ((0:Int)<=p.1.2.2.1))&&(decide (p.1.2.2.1<(p.2.1.1.length:Int))))||(!(decide (p.1.2.2.1<(p.2.1.1.length:Int))))) (cond ((decide (p.1.2.2.1<(p.2.1.1.length:Int)))&&(Go.Op.bytesLess (List.getD p.2.1.1 p.1.2.2.1.toNat k44).1 p.1.2.1)) (some (Sum.inl ((p.1.1,p.1.2.1,(zX (p.1.2.2.1+(1:Int))),()),p.2))) (some (Sum.inr p))) none) none) none)
def L400_0 (p:T400_0):Option R400_0:=zP B400_0 p
def F400 (p:(Bool×S5×Unit)×S94):Option ((Int×Bool×Unit)×S94):=(Option.bind (Option.bind (L400_0 ((p.1.1,p.1.2.1,(0:Int),()),p.2)) λp1=>(some p1)) λp2=>(cond p2.1.1 (cond (p2.1.1||(!(decide (p2.1.2.2.1<(p2.2.1.1.length:Int))))) (cond (((decide ((0:Int)<=p2.1.2.2.1))&&(decide (p2.1.2.2.1<(p2.2.1.1.length:Int))))||(!(decide (p2.1.2.2.1<(p2.2.1.1.length:Int))))) (some ((p2.1.2.2.1,((decide (p2.1.2.2.1<(p2.2.1.1.length:Int)))&&(decide ((List.getD p2.2.1.1 p2.1.2.2.1.toNat k44).1=p2.1.2.1))),()),p2.2)) none) none) none))
def F401 (p:(Bool×Int×Int×(List S11)×Unit)×S94):Option (Unit×(S43×(List S11)×Unit)):=(Option.bind (cond p.1.1 (cond ((decide ((0:Int)<=p.1.2.1))&&(decide (p.1.2.1<=(p.2.1.1.length:Int)))) (cond (zC ((List.length ([]:List S11))+(List.length (List.take p.1.2.1.toNat p.2.1.1))) 48) (some ((p.1.1,p.1.2.2.1,p.1.2.2.2.1,(),()),(p.2.1,(([]:List S11)++(List.take p.1.2.1.toNat p.2.1.1)),()))) none) none) none) λp1=>(Option.bind (cond (zC ((List.length p1.2.2.1)+(List.length p1.1.2.2.1)) 48) (some ((p1.1.1,p1.1.2.1,(),()),(p1.2.1,(p1.2.2.1++p1.1.2.2.1),()))) none) λp2=>(Option.bind (cond p2.1.1 (cond (((decide ((0:Int)<=p2.1.2.1))&&(decide (p2.1.2.1<=(p2.2.1.1.length:Int))))&&(decide ((p2.2.1.1.length:Int)<=(p2.2.1.1.length:Int)))) (cond (zC ((List.length p2.2.2.1)+(List.length (List.take ((Int.toNat (p2.2.1.1.length:Int))-p2.1.2.1.toNat) (List.drop p2.1.2.1.toNat p2.2.1.1)))) 48) (cond p2.1.1 (some ((p2.1.1,()),(((),()),(p2.2.2.1++(List.take ((Int.toNat (p2.2.1.1.length:Int))-p2.1.2.1.toNat) (List.drop p2.1.2.1.toNat p2.2.1.1))),()))) none) none) none) none) λp3=>(some ((),(((),()),p3.2.2))))))
def F398 (p:(Bool×S32×Unit)×S94):Option (Int×S94):=(Option.bind (F400 ((p.1.1,p.1.2.1.1,()),p.2)) λr1=>(cond r1.1.2.1 (some ((10:Int),r1.2)) (cond p.1.1 (cond (decide ((16:Int)<=(r1.2.1.1.length:Int))) (some ((8:Int),r1.2)) (Option.bind (F401 ((p.1.1,r1.1.1,r1.1.1,([(p.1.2.1.1,p.1.2.1.2)]:List S11),()),r1.2)) λr2=>(some ((0:Int),(r2.2.2,()))))) none)))
abbrev T402_0:Type:=((S5×Unit×Unit×Unit×Unit×Bool×Int×Unit)×(S32×S51×vI×S20×tN×Unit))
abbrev R402_0:Type:=((Unit×Unit×Unit×Bool×Unit)×(S51×vI×S20×tN×Unit))
def B402_0 (p:T402_0):Option (T402_0⊕R402_0):=(cond (decide (p.1.2.2.2.2.2.2.1<(p.2.1.2.2.1.length:Int))) (Option.bind (cond ((decide ((0:Int)<=p.1.2.2.2.2.2.2.1))&&(decide (p.1.2.2.2.2.2.2.1<(p.2.1.2.2.1.length:Int)))) (cond (decide ((List.getD p.2.1.2.2.1 p.1.2.2.2.2.2.2.1.toNat yz).1=p.1.1)) (Option.bind (cond ((decide ((0:Int)<=p.1.2.2.2.2.2.2.1))&&(decide (p.1.2.2.2.2.2.2.1<(p.2.1.2.2.1.length:Int)))) (some ((p.1.1,(),(),(),(),p.1.2.2.2.2.2.2),(p.2.1,((),(),(),(),()),p.2.2.2.1,((List.getD p.2.1.2.2.1 p.1.2.2.2.2.2.2.1.toNat yz).1,(List.getD p.2.1.2.2.1 p.1.2.2.2.2.2.2.1.toNat yz).2.1,(List.getD p.2.1.2.2.1 p.1.2.2.2.2.2.2.1.toNat yz).2.2.1,(List.getD p.2.1.2.2.1 p.1.2.2.2.2.2.2.1.toNat yz).2.2.2.1,()),p.2.2.2.2.2))) none) λp5=>((some ((p5.1.1,(),(),(),(),true,p5.1.2.2.2.2.2),(p5.2.1,((),(),(),(),()),p5.2.2.2))))) (Option.bind (cond ((decide ((0:Int)<=p.1.2.2.2.2.2.2.1))&&(decide (p.1.2.2.2.2.2.2.1<(p.2.1.2.2.1.length:Int)))) (cond (zC ((List.length p.2.2.2.1)+(List.length ([((List.getD p.2.1.2.2.1 p.1.2.2.2.2.2.2.1.toNat yz).1,((List.getD p.2.1.2.2.1 p.1.2.2.2.2.2.2.1.toNat yz).2.1,((List.getD p.2.1.2.2.1 p.1.2.2.2.2.2.2.1.toNat yz).2.2.1,((List.getD p.2.1.2.2.1 p.1.2.2.2.2.2.2.1.toNat yz).2.2.2.1,()))))]:List S1))) 56) (some (p.1,(p.2.1,((),(),(),(),()),(p.2.2.2.1++([((List.getD p.2.1.2.2.1 p.1.2.2.2.2.2.2.1.toNat yz).1,((List.getD p.2.1.2.2.1 p.1.2.2.2.2.2.2.1.toNat yz).2.1,((List.getD p.2.1.2.2.1 p.1.2.2.2.2.2.2.1.toNat yz).2.2.1,((List.getD p.2.1.2.2.1 p.1.2.2.2.2.2.2.1.toNat yz).2.2.2.1,()))))]:List S1)),p.2.2.2.2))) none) none) λp7=>(some (p7.1,(p7.2.1,((),(),(),(),()),p7.2.2.2))))) none) λp8=>(some (Sum.inl ((p8.1.1,(),(),(),(),p8.1.2.2.2.2.2.1,(zX (p8.1.2.2.2.2.2.2.1+(1:Int))),()),(p8.2.1,((),(),(),(),()),p8.2.2.2))))) (some (Sum.inr (((),(),(),p.1.2.2.2.2.2.1,()),(((),(),(),(),()),p.2.2.2)))))
def L402_0 (p:T402_0):Option R402_0:=zP B402_0 p
def F402 (p:(S32×S5×Unit)×Unit):Option ((Unit×S20×Bool×Unit)×(vI×Unit)):=((((Option.bind ((Option.bind (L402_0 ((p.1.2.1,(),(),(),(),false,(0:Int),()),(p.1.1,((),(),(),(),()),([]:List S1),k45,([]:List S8),()))) λp9=>(some (p9.1,(((),(),(),(),()),p9.2.2))))) λp10=>(some (((),p10.2.2.2.1,p10.1.2.2.2),(p10.2.2.1,())))))))
abbrev T403_0:Type:=((vI×Unit×Unit×Bool×Int×Unit)×(S20×vI×Unit))
abbrev R403_0:Type:=((Unit×Unit×Bool×Unit)×(S20×vI×Unit))
def B403_0 (p:T403_0):Option (T403_0⊕R403_0):=(cond (decide (p.1.2.2.2.2.1<(p.1.1.length:Int))) (Option.bind (Option.bind (cond (((decide ((0:Int)<=p.1.2.2.2.2.1))&&(decide (p.1.2.2.2.2.1<(p.1.1.length:Int))))||(!(!p.1.2.2.2.1))) (cond ((!p.1.2.2.2.1)&&(Go.Op.bytesLess p.2.1.1 (List.getD p.1.1 p.1.2.2.2.2.1.toNat yz).1)) (Option.bind (cond (zC ((List.length p.2.2.1)+(List.length ([p.2.1]:List S1))) 56) (some ((p.1.1,(),(),p.1.2.2.2.2),(p.2.1,(p.2.2.1++([p.2.1]:List S1)),()))) none) λp4=>((some ((p4.1.1,(),(),true,p4.1.2.2.2),p4.2)))) (some p)) none) λp6=>(Option.bind (cond ((decide ((0:Int)<=p6.1.2.2.2.2.1))&&(decide (p6.1.2.2.2.2.1<(p6.1.1.length:Int)))) (cond (zC ((List.length p6.2.2.1)+(List.length ([((List.getD p6.1.1 p6.1.2.2.2.2.1.toNat yz).1,((List.getD p6.1.1 p6.1.2.2.2.2.1.toNat yz).2.1,((List.getD p6.1.1 p6.1.2.2.2.2.1.toNat yz).2.2.1,((List.getD p6.1.1 p6.1.2.2.2.2.1.toNat yz).2.2.2.1,()))))]:List S1))) 56) (some (p6.1,(p6.2.1,(p6.2.2.1++([((List.getD p6.1.1 p6.1.2.2.2.2.1.toNat yz).1,((List.getD p6.1.1 p6.1.2.2.2.2.1.toNat yz).2.1,((List.getD p6.1.1 p6.1.2.2.2.2.1.toNat yz).2.2.1,((List.getD p6.1.1 p6.1.2.2.2.2.1.toNat yz).2.2.2.1,()))))]:List S1)),()))) none) none) λp7=>(some p7))) λp8=>(some (Sum.inl ((p8.1.1,(),(),p8.1.2.2.2.1,(zX (p8.1.2.2.2.2.1+(1:Int))),()),p8.2)))) (some (Sum.inr (((),(),p.1.2.2.2.1,()),p.2))))
def L403_0 (p:T403_0):Option R403_0:=zP B403_0 p
def F403 (p:(vI×S20×Unit)×Unit):Option (Unit×(vI×Unit)):=(((Option.bind ((Option.bind (L403_0 ((p.1.1,(),(),false,(0:Int),()),(p.1.2.1,([]:List S1),()))) λp9=>(some p9))) λp10=>(Option.bind (cond (!p10.1.2.2.1) (Option.bind (cond (zC ((List.length p10.2.2.1)+(List.length ([p10.2.1]:List S1))) 56) (some (((),()),((p10.2.2.1++([p10.2.1]:List S1)),()))) none) λp11=>(some (((),()),p11.2))) (some (((),()),p10.2.2))) λp12=>(some ((),p12.2))))))
abbrev T404_1:Type:=((Bool×Int×Unit×Unit×Unit×Int×Bool×Int×Unit×Int×Unit)×(S55×S25×S32×vI×S20×Unit))
abbrev R404_1:Type:=((Bool×Int×Unit×Unit×Unit×Int×Bool×Int×Unit×Unit)×(S55×S25×S32×vI×S20×Unit))
def B404_1 (p:T404_1):Option (T404_1⊕R404_1):=(cond (decide (p.1.2.2.2.2.2.2.2.2.2.1<(p.2.2.2.2.1.length:Int))) (Option.bind (cond (((decide ((0:Int)<=p.1.2.2.2.2.2.2.2.2.2.1))&&(decide (p.1.2.2.2.2.2.2.2.2.2.1<(p.2.2.2.2.1.length:Int))))||p.1.2.2.2.2.2.2.1) (some ((p.1.1,p.1.2.1,(),(),(),p.1.2.2.2.2.2.1,(p.1.2.2.2.2.2.2.1||(decide ((List.getD p.2.2.2.2.1 p.1.2.2.2.2.2.2.2.2.2.1.toNat yz).1=p.2.2.2.2.2.1.1))),p.1.2.2.2.2.2.2.2.1,p.1.2.2.2.2.2.2.2.2),p.2)) none) λp14=>((some (Sum.inl ((p14.1.1,p14.1.2.1,(),(),(),p14.1.2.2.2.2.2.1,p14.1.2.2.2.2.2.2.1,p14.1.2.2.2.2.2.2.2.1,(),(zX (p14.1.2.2.2.2.2.2.2.2.2.1+(1:Int))),()),p14.2))))) (some (Sum.inr ((p.1.1,p.1.2.1,(),(),(),p.1.2.2.2.2.2.1,p.1.2.2.2.2.2.2.1,p.1.2.2.2.2.2.2.2.1,(),()),p.2))))
def L404_1 (p:T404_1):Option R404_1:=zP B404_1 p
abbrev T404_0:Type:=((Bool×Int×Unit×Unit×Unit×Int×Bool×Int×Unit)×(S55×S25×S32×vI×Unit))
abbrev R404_0:Type:=(((Bool×Int×Unit×Unit×Int×Bool×Unit)×(S55×S32×vI×Unit))⊕((Bool×Unit×Unit×Unit)×S94))
def B404_0 (p:T404_0):Option (T404_0⊕R404_0):=(cond (decide (p.1.2.2.2.2.2.2.2.1<(p.2.2.2.1.2.2.1.length:Int))) (Option.bind (Option.bind (cond ((decide ((0:Int)<=p.1.2.2.2.2.2.2.2.1))&&(decide (p.1.2.2.2.2.2.2.2.1<(p.2.2.2.1.2.2.1.length:Int)))) (some ((p.1.1,p.1.2.1,(),(),(),p.1.2.2.2.2.2.1,p.1.2.2.2.2.2.2.1,p.1.2.2.2.2.2.2.2.1,(),()),(p.2.1,p.2.2.1,p.2.2.2.1,p.2.2.2.2.1,((List.getD p.2.2.2.1.2.2.1 p.1.2.2.2.2.2.2.2.1.toNat yz).1,(List.getD p.2.2.2.1.2.2.1 p.1.2.2.2.2.2.2.2.1.toNat yz).2.1,(List.getD p.2.2.2.1.2.2.1 p.1.2.2.2.2.2.2.2.1.toNat yz).2.2.1,(List.getD p.2.2.2.1.2.2.1 p.1.2.2.2.2.2.2.2.1.toNat yz).2.2.2.1,()),()))) none) λp7=>((Option.bind (Option.bind (cond (((decide ((0:Int)<=(p7.2.2.1.2.2.1.length:Int)))&&(decide ((p7.2.2.1.2.2.1.length:Int)<=(p7.2.2.2.2.2.1.1.length:Int))))||(!((decide ((p7.2.2.1.2.2.1.length:Int)<(p7.2.2.2.2.2.1.1.length:Int)))&&(!(decide (p7.2.2.2.2.2.1.1=p7.2.2.1.2.2.1)))))) (cond (((decide ((0:Int)<=(p7.2.2.1.2.2.1.length:Int)))&&(decide ((p7.2.2.1.2.2.1.length:Int)<(p7.2.2.2.2.2.1.1.length:Int))))||(!(((decide ((p7.2.2.1.2.2.1.length:Int)<(p7.2.2.2.2.2.1.1.length:Int)))&&(decide ((List.take (p7.2.2.1.2.2.1.length:Int).toNat p7.2.2.2.2.2.1.1)=p7.2.2.1.2.2.1)))&&(!(decide (p7.2.2.2.2.2.1.1=p7.2.2.1.2.2.1)))))) (some ((p7.1.1,p7.1.2.1,(),(),(),p7.1.2.2.2.2.2.1,p7.1.2.2.2.2.2.2.1,p7.1.2.2.2.2.2.2.2.1,(),(p7.2.2.1.2.2.1.length:Int),((decide (p7.2.2.2.2.2.1.1=p7.2.2.1.2.2.1))||(((decide ((p7.2.2.1.2.2.1.length:Int)<(p7.2.2.2.2.2.1.1.length:Int)))&&(decide ((List.take (p7.2.2.1.2.2.1.length:Int).toNat p7.2.2.2.2.2.1.1)=p7.2.2.1.2.2.1)))&&(decide ((List.getD p7.2.2.2.2.2.1.1 (p7.2.2.1.2.2.1.length:Int).toNat 0)=(47:UInt8))))),()),p7.2)) none) none) λp9=>(cond p9.1.2.2.2.2.2.2.2.2.2.2.1 (Option.bind (cond (((decide ((0:Int)<=p9.1.2.2.2.2.2.2.2.2.2.1))&&(decide (p9.1.2.2.2.2.2.2.2.2.2.1<=(p9.2.2.2.2.2.1.1.length:Int))))&&(decide ((p9.2.2.2.2.2.1.1.length:Int)<=(p9.2.2.2.2.2.1.1.length:Int)))) (cond (fits (List.length p9.2.2.1.2.2.2.1+List.length (List.take ((Int.toNat (p9.2.2.2.2.2.1.1.length:Int))-p9.1.2.2.2.2.2.2.2.2.2.1.toNat) (List.drop p9.1.2.2.2.2.2.2.2.2.2.1.toNat p9.2.2.2.2.2.1.1)))) (some ((p9.1.1,p9.1.2.1,(),(),(),p9.1.2.2.2.2.2.1,p9.1.2.2.2.2.2.2.1,p9.1.2.2.2.2.2.2.2.1,(),()),(p9.2.1,p9.2.2.1,p9.2.2.2.1,p9.2.2.2.2.1,((p9.2.2.1.2.2.2.1++(List.take ((Int.toNat (p9.2.2.2.2.2.1.1.length:Int))-p9.1.2.2.2.2.2.2.2.2.2.1.toNat) (List.drop p9.1.2.2.2.2.2.2.2.2.2.1.toNat p9.2.2.2.2.2.1.1))),p9.2.2.2.2.2.1.2),()))) none) none) λp10=>((some ((p10.1.1,p10.1.2.1,(),(),(),(zX (p10.1.2.2.2.2.2.1+(1:Int))),p10.1.2.2.2.2.2.2),p10.2)))) (some ((p9.1.1,p9.1.2.1,(),(),(),p9.1.2.2.2.2.2.1,p9.1.2.2.2.2.2.2.1,p9.1.2.2.2.2.2.2.2.1,(),()),p9.2)))) λp12=>(Option.bind (F366 ((p12.2.2.2.2.2.1.1,()),())) λr13=>(cond (!r13.1) (some (Sum.inr ((p12.1.1,(),(),()),(p12.2.1,())))) (Option.bind (Option.bind (L404_1 ((p12.1.1,p12.1.2.1,(),(),(),p12.1.2.2.2.2.2.1,p12.1.2.2.2.2.2.2.1,p12.1.2.2.2.2.2.2.2.1,(),(0:Int),()),(p12.2.1,p12.2.2.1,p12.2.2.2.1,p12.2.2.2.2.1,(p12.2.2.2.2.2.1.1,p12.2.2.2.2.2.1.2),()))) λp16=>(some p16)) λp17=>(Option.bind (F403 (p17.2.2.2.2,())) λr18=>(some (Sum.inl ((p17.1.1,p17.1.2.1,(),(),(),p17.1.2.2.2.2.2.1,p17.1.2.2.2.2.2.2.1,p17.1.2.2.2.2.2.2.2.1,()),(p17.2.1,p17.2.2.1,p17.2.2.2.1,r18.2))))))))))) λp19=>(match p19 with | Sum.inl p20=>(some (Sum.inl ((p20.1.1,p20.1.2.1,(),(),(),p20.1.2.2.2.2.2.1,p20.1.2.2.2.2.2.2.1,(zX (p20.1.2.2.2.2.2.2.2.1+(1:Int))),()),p20.2))) | Sum.inr q20=>(some (Sum.inr (Sum.inr ((q20.1.1,(),(),()),(q20.2.1,()))))))) (some (Sum.inr (Sum.inl ((p.1.1,p.1.2.1,(),(),p.1.2.2.2.2.2.1,p.1.2.2.2.2.2.2.1,()),(p.2.1,p.2.2.2))))))
def L404_0 (p:T404_0):Option R404_0:=zP B404_0 p
def F404 (p:(Bool×Int×S25×Unit)×S94):Option (S86×S94):=(Option.bind (cond p.1.1 (cond ((decide ((0:Int)<=p.1.2.1))&&(decide (p.1.2.1<(p.2.1.1.length:Int)))) (some ((p.1.1,p.1.2.1,(),(),()),(p.2.1,p.1.2.2.1,((List.getD p.2.1.1 p.1.2.1.toNat k44).1,(List.getD p.2.1.1 p.1.2.1.toNat k44).2.1,(List.getD p.2.1.1 p.1.2.1.toNat k44).2.2.1,()),()))) none) none) λp1=>((cond (decide (p1.2.2.1.2.2.1=([73,78,66,79,88]:List UInt8))) (some (((0:Int),(13:Int),()),(p1.2.1,()))) ((((Option.bind ((Option.bind (L404_0 ((p1.1.1,p1.1.2.1,(),(),(),(0:Int),false,(0:Int),()),(p1.2.1,p1.2.2.1,p1.2.2.2.1,([]:List S1),()))) λp21=>(match p21 with | Sum.inl p22=>(some (Sum.inl p22)) | Sum.inr q22=>(some (Sum.inr q22))))) λp23=>(match p23 with | Sum.inl p24=>(cond p24.1.2.2.2.2.2.1 (some (((0:Int),(10:Int),()),(p24.2.1,()))) (Option.bind (F401 ((p24.1.1,p24.1.2.1,(zX (p24.1.2.1+(1:Int))),([(p24.2.2.1.1,(p24.2.2.1.2.1,p24.2.2.2))]:List S11),()),(p24.2.1,()))) λr25=>(some ((p24.1.2.2.2.2.1,(0:Int),()),(r25.2.2,()))))) | Sum.inr q24=>(some (((0:Int),(6:Int),()),q24.2))))))))))
def F405 (p:(S20×UInt8×S5×Unit)×Unit):Option ((S20×Int×Int×Unit)×Unit):=(Option.bind (F367 (((p.1.1.1,p.1.1.2.1,p.1.1.2.2.1,p.1.1.2.2.2),()),())) λr1=>(cond (!(decide (r1.1=(0:Int)))) (some ((k45,(0:Int),r1),())) (cond (decide ((UInt8.toNat (31:UInt8))<(UInt8.toNat p.1.2.1))) (some ((k45,(0:Int),(2:Int),()),())) (cond (decide ((600:Int)<(p.1.2.2.1.length:Int))) (some ((k45,(0:Int),(6:Int),()),())) (cond ((decide ((31:Int)<(p.1.1.2.2.2.1.length:Int)))||(decide ((4294967294:Int)<p.1.1.2.2.1))) (some ((k45,(0:Int),(8:Int),()),())) (Option.bind (agr (agr (cond (zC ((List.length ([]:List S8))+(List.length p.1.1.2.2.2.1)) 40) (cond (decide (p.1.1.2.2.1=p.1.1.2.2.1)) (cond (zC (0+(List.length p.1.2.2.1)) 1) (cond (decide (p.1.1.2.2.1=p.1.1.2.2.1)) (cond (zC ((List.length (([]:List S8)++p.1.1.2.2.2.1))+(List.length ([(p.1.1.2.2.1,(p.1.2.1,((([]:List UInt8)++p.1.2.2.1),())))]:List S8))) 40) (some (((),(),(),()),((p.1.1.1,p.1.1.2.1,p.1.1.2.2.1,p.1.1.2.2.2),((),(),(),(),()),(p.1.1.1,p.1.1.2.1,p.1.1.2.2.1,(),()),([]:List S8),((([]:List S8)++p.1.1.2.2.2.1)++([(p.1.1.2.2.1,(p.1.2.1,((([]:List UInt8)++p.1.2.2.1),())))]:List S8)),()))) none) none) none) none) none) (cond (zC ((List.length ([]:List S8))+(List.length p.1.1.2.2.2.1)) 40) (cond (decide (p.1.1.2.2.1=p.1.1.2.2.1)) (cond (zC (0+(List.length p.1.2.2.1)) 1) (cond (decide (p.1.1.2.2.1=p.1.1.2.2.1)) (cond (zC ((List.length (([]:List S8)++p.1.1.2.2.2.1))+(List.length ([(p.1.1.2.2.1,(p.1.2.1,((([]:List UInt8)++p.1.2.2.1),())))]:List S8))) 40) (some (((),(),(),()),((p.1.1.1,p.1.1.2.1,p.1.1.2.2.1,p.1.1.2.2.2),((),(),(),(),()),(p.1.1.1,p.1.1.2.1,p.1.1.2.2.1,(),()),([]:List S8),((([]:List S8)++p.1.1.2.2.2.1)++([(p.1.1.2.2.1,(p.1.2.1,((([]:List UInt8)++p.1.2.2.1),())))]:List S8)),()))) none) none) none) none) none)) (cond (zC ((List.length ([]:List S8))+(List.length p.1.1.2.2.2.1)) 40) (cond (decide (p.1.1.2.2.1=p.1.1.2.2.1)) (cond (zC (0+(List.length p.1.2.2.1)) 1) (cond (decide (p.1.1.2.2.1=p.1.1.2.2.1)) (cond (zC ((List.length (([]:List S8)++p.1.1.2.2.2.1))+(List.length ([(p.1.1.2.2.1,(p.1.2.1,((([]:List UInt8)++p.1.2.2.1),())))]:List S8))) 40) (some (((),(),(),()),((p.1.1.1,p.1.1.2.1,p.1.1.2.2.1,p.1.1.2.2.2),((),(),(),(),()),(p.1.1.1,p.1.1.2.1,p.1.1.2.2.1,(),()),([]:List S8),((([]:List S8)++p.1.1.2.2.2.1)++([(p.1.1.2.2.1,(p.1.2.1,((([]:List UInt8)++p.1.2.2.1),())))]:List S8)),()))) none) none) none) none) none)) λp2=>(((some (((p2.2.2.2.1.1,p2.2.2.2.1.2.1,(zX (p2.2.1.2.2.1+(1:Int))),p2.2.2.2.2.2),p2.2.1.2.2.1,(0:Int),()),()))))))))))
abbrev T428_0:Type:=((Int×tN×Unit×Unit×Unit×Bool×Int×Unit)×(S20×S51×S58×tN×tN×Unit))
abbrev R428_0:Type:=((Unit×Unit×Bool×Unit)×(S51×S58×tN×tN×Unit))
def B428_0 (p:T428_0):Option (T428_0⊕R428_0):=(cond (decide (p.1.2.2.2.2.2.2.1<(p.2.1.2.2.2.1.length:Int))) (Option.bind (cond ((decide ((0:Int)<=p.1.2.2.2.2.2.2.1))&&(decide (p.1.2.2.2.2.2.2.1<(p.2.1.2.2.2.1.length:Int)))) (cond (decide ((List.getD p.2.1.2.2.2.1 p.1.2.2.2.2.2.2.1.toNat xV).1=p.1.1)) (cond (zC ((List.length p.2.2.2.2.2.1)+(List.length p.1.2.1)) 40) (some ((p.1.1,p.1.2.1,(),(),(),true,p.1.2.2.2.2.2.2),(p.2.1,((),(),(),(),()),p.2.2.2.1,p.2.2.2.2.1,(p.2.2.2.2.2.1++p.1.2.1),()))) none) (Option.bind (cond ((decide ((0:Int)<=p.1.2.2.2.2.2.2.1))&&(decide (p.1.2.2.2.2.2.2.1<(p.2.1.2.2.2.1.length:Int)))) (cond (zC ((List.length p.2.2.2.2.2.1)+(List.length ([((List.getD p.2.1.2.2.2.1 p.1.2.2.2.2.2.2.1.toNat xV).1,((List.getD p.2.1.2.2.2.1 p.1.2.2.2.2.2.2.1.toNat xV).2.1,((List.getD p.2.1.2.2.2.1 p.1.2.2.2.2.2.2.1.toNat xV).2.2.1,())))]:List S8))) 40) (some (p.1,(p.2.1,((),(),(),(),()),p.2.2.2.1,p.2.2.2.2.1,(p.2.2.2.2.2.1++([((List.getD p.2.1.2.2.2.1 p.1.2.2.2.2.2.2.1.toNat xV).1,((List.getD p.2.1.2.2.2.1 p.1.2.2.2.2.2.2.1.toNat xV).2.1,((List.getD p.2.1.2.2.2.1 p.1.2.2.2.2.2.2.1.toNat xV).2.2.1,())))]:List S8)),()))) none) none) λp1=>(some (p1.1,(p1.2.1,((),(),(),(),()),p1.2.2.2))))) none) λp2=>(some (Sum.inl ((p2.1.1,p2.1.2.1,(),(),(),p2.1.2.2.2.2.2.1,(zX (p2.1.2.2.2.2.2.2.1+(1:Int))),()),(p2.2.1,((),(),(),(),()),p2.2.2.2))))) (some (Sum.inr (((),(),p.1.2.2.2.2.2.1,()),(((),(),(),(),()),p.2.2.2)))))
def L428_0 (p:T428_0):Option R428_0:=zP B428_0 p
def F428 (p:(S20×Int×tN×Unit)×Unit):Option ((S20×Bool×Unit)×Unit):=(Option.bind (Option.bind (L428_0 ((p.1.2.1,p.1.2.2.1,(),(),(),false,(0:Int),()),((p.1.1.1,p.1.1.2.1,p.1.1.2.2.1,p.1.1.2.2.2),((),(),(),(),()),(p.1.1.1,p.1.1.2.1,p.1.1.2.2.1,(),()),([]:List S8),([]:List S8),()))) λp3=>(some (p3.1,(((),(),(),(),()),p3.2.2)))) λp4=>(some (((p4.2.2.1.1,p4.2.2.1.2.1,p4.2.2.1.2.2.1,p4.2.2.2.2),p4.1.2.2),())))
abbrev T406_1:Type:=((Int×Int×UInt8×Unit×Unit×Unit×UInt8×UInt8×Unit)×(S20×S51×(Int×UInt8×S5×Unit)×tN×Unit))
abbrev R406_1:Type:=((Int×Unit×Unit×Unit×UInt8×Unit)×(S20×S51×(Int×UInt8×S5×Unit)×tN×Unit))
def B406_1 (p:T406_1):Option (T406_1⊕R406_1):=(cond (decide ((UInt8.toNat p.1.2.2.2.2.2.2.2.1)<(UInt8.toNat (32:UInt8)))) (Option.bind (Option.bind (cond (decide (p.1.2.2.2.2.2.2.2.1≠0)) (cond (decide ((2:UInt8)≠0)) (some ((p.1.1,p.1.2.1,p.1.2.2.1,(),(),(),p.1.2.2.2.2.2.2.1,p.1.2.2.2.2.2.2.2.1,(decide (((p.2.2.2.1.2.1/p.1.2.2.2.2.2.2.2.1) % (2:UInt8))=(1:UInt8))),()),(p.2.1,((),(),(),(),()),p.2.2.2))) none) none) λp6=>(Option.bind (cond (decide (p6.1.2.2.2.2.2.2.2.1≠0)) (cond (decide ((2:UInt8)≠0)) (some ((p6.1.1,p6.1.2.1,p6.1.2.2.1,(),(),(),p6.1.2.2.2.2.2.2.1,p6.1.2.2.2.2.2.2.2.1,p6.1.2.2.2.2.2.2.2.2.1,(decide (((p6.1.2.2.1/p6.1.2.2.2.2.2.2.2.1) % (2:UInt8))=(1:UInt8))),()),(p6.2.1,((),(),(),(),()),p6.2.2.2))) none) none) λp7=>(cond ((((decide (p7.1.2.1=(0:Int)))&&p7.1.2.2.2.2.2.2.2.2.2.1)||((decide (p7.1.2.1=(1:Int)))&&(p7.1.2.2.2.2.2.2.2.2.1||p7.1.2.2.2.2.2.2.2.2.2.1)))||(((decide (p7.1.2.1=(2:Int)))&&p7.1.2.2.2.2.2.2.2.2.1)&&(!p7.1.2.2.2.2.2.2.2.2.2.1))) (some ((p7.1.1,p7.1.2.1,p7.1.2.2.1,(),(),(),(p7.1.2.2.2.2.2.2.1+p7.1.2.2.2.2.2.2.2.1),p7.1.2.2.2.2.2.2.2.1,()),(p7.2.1,((),(),(),(),()),p7.2.2.2))) (some ((p7.1.1,p7.1.2.1,p7.1.2.2.1,(),(),(),p7.1.2.2.2.2.2.2.1,p7.1.2.2.2.2.2.2.2.1,()),(p7.2.1,((),(),(),(),()),p7.2.2.2)))))) λp8=>(some (Sum.inl ((p8.1.1,p8.1.2.1,p8.1.2.2.1,(),(),(),p8.1.2.2.2.2.2.2.1,(p8.1.2.2.2.2.2.2.2.1*(2:UInt8)),()),(p8.2.1,((),(),(),(),()),p8.2.2.2))))) (some (Sum.inr ((p.1.1,(),(),(),p.1.2.2.2.2.2.2.1,()),(p.2.1,((),(),(),(),()),p.2.2.2)))))
def L406_1 (p:T406_1):Option R406_1:=zP B406_1 p
abbrev T406_0:Type:=((Int×Int×UInt8×Unit×Unit×Int×Unit)×(S20×S51×tN×Unit))
abbrev R406_0:Type:=((S43×(S51×tN×Unit))⊕(S71×S102))
def B406_0 (p:T406_0):Option (T406_0⊕R406_0):=(cond (decide (p.1.2.2.2.2.2.1<(p.2.1.2.2.2.1.length:Int))) (Option.bind (cond ((decide ((0:Int)<=p.1.2.2.2.2.2.1))&&(decide (p.1.2.2.2.2.2.1<(p.2.1.2.2.2.1.length:Int)))) (some ((p.1.1,p.1.2.1,p.1.2.2.1,(),(),p.1.2.2.2.2.2.1,(),()),(p.2.1,((),(),(),(),()),((List.getD p.2.1.2.2.2.1 p.1.2.2.2.2.2.1.toNat xV).1,(List.getD p.2.1.2.2.2.1 p.1.2.2.2.2.2.1.toNat xV).2.1,(List.getD p.2.1.2.2.2.1 p.1.2.2.2.2.2.1.toNat xV).2.2.1,()),p.2.2.2))) none) λp2=>((cond (!(decide (p2.2.2.2.1.1=p2.1.1))) (some (Sum.inl ((p2.1.1,p2.1.2.1,p2.1.2.2.1,(),(),(zX (p2.1.2.2.2.2.2.1+(1:Int))),()),(p2.2.1,((),(),(),(),()),p2.2.2.2.2)))) ((Option.bind ((Option.bind (L406_1 ((p2.1.1,p2.1.2.1,p2.1.2.2.1,(),(),(),(0:UInt8),(1:UInt8),()),(p2.2.1,((),(),(),(),()),p2.2.2.2))) λp9=>(some (p9.1,(p9.2.1,((),(),(),(),()),p9.2.2.2))))) λp10=>(Option.bind (F428 ((p10.2.1,p10.1.1,([(p10.2.2.2.1.1,(p10.1.2.2.2.2.1,p10.2.2.2.1.2.2))]:List S8),()),())) λr11=>(some (Sum.inr (Sum.inr (((),(),()),(r11.1.1,()))))))))))) (some (Sum.inr (Sum.inl (((),()),(((),(),(),(),()),p.2.2.2))))))
def L406_0 (p:T406_0):Option R406_0:=zP B406_0 p
def F406 (p:(S20×Int×Int×UInt8×Unit)×Unit):Option (S101×Unit):=(Option.bind (F367 ((p.1.1,()),())) λr1=>(cond (!(decide (r1.1=(0:Int)))) (some ((k45,r1),())) (cond ((((!(decide (p.1.2.2.1=(0:Int))))&&(!(decide (p.1.2.2.1=(1:Int)))))&&(!(decide (p.1.2.2.1=(2:Int)))))||(decide ((UInt8.toNat (31:UInt8))<(UInt8.toNat p.1.2.2.2.1)))) (some ((k45,(2:Int),()),())) (Option.bind (Option.bind (L406_0 ((p.1.2.1,p.1.2.2.1,p.1.2.2.2.1,(),(),(0:Int),()),(p.1.1,((),(),(),(),()),([]:List S8),()))) λp12=>(match p12 with | Sum.inl p13=>(some (Sum.inl (((),()),(((),(),(),(),()),p13.2.2)))) | Sum.inr q13=>(some (Sum.inr (((),(),()),q13.2))))) λp14=>(match p14 with | Sum.inl _p15=>(some ((k45,(9:Int),()),())) | Sum.inr q15=>(some ((q15.2.1,(0:Int),()),())))))))
def F407 (p:S101×Unit):Option (S101×Unit):=(Option.bind (F367 ((p.1.1,()),())) λr1=>(cond (!(decide (r1.1=(0:Int)))) (some ((k45,r1),())) (Option.bind (F428 ((p.1.1,p.1.2.1,([]:List S8),()),())) λr2=>(cond (!r2.1.2.1) (some ((k45,(9:Int),()),())) (some ((r2.1.1,(0:Int),()),()))))))
def ux (p:(Bool×S25×Unit)×S94):Option (S86×S94):=(Option.bind (uS (((p.1.2.1.1,p.1.2.1.2.1,p.1.2.1.2.2.1,p.1.2.1.2.2.2.1,p.1.2.1.2.2.2.2.1,p.1.2.1.2.2.2.2.2.1,p.1.2.1.2.2.2.2.2.2.1,p.1.2.1.2.2.2.2.2.2.2.1,p.1.2.1.2.2.2.2.2.2.2.2.1,p.1.2.1.2.2.2.2.2.2.2.2.2.1,()),()),())) λr1=>(cond (!(decide (r1.1=(0:Int)))) (some (((0:Int),r1.1,()),((p.2.1.1,()),()))) (cond (decide (p.1.2.1.1=(1:Int))) (Option.bind (F398 ((p.1.1,(p.1.2.1.2.1,(1:Int),([(([73,78,66,79,88]:List UInt8),((1:Int),((1:Int),(([]:tN),()))))]:List S1),()),()),((p.2.1.1,()),()))) λr2=>(some (((1:Int),r2.1,()),((r2.2.1.1,()),())))) (cond (decide (p.1.2.1.1=(8:Int))) (Option.bind (F399 ((p.1.2.1.2.2.2.2.2.2.2.2.2.1,()),())) λr3=>(Option.bind (F398 ((p.1.1,(r3.1.1.1,r3.1.1.2.1,r3.2.1,()),()),((p.2.1.1,()),()))) λr4=>(some (((0:Int),r4.1,()),((r4.2.1.1,()),()))))) (Option.bind (F400 ((p.1.1,p.1.2.1.2.1,()),((p.2.1.1,()),()))) λr5=>(cond (!r5.1.2.1) (some (((0:Int),(9:Int),()),((r5.2.1.1,()),()))) (cond (decide (p.1.2.1.1=(9:Int))) (Option.bind (F401 ((p.1.1,r5.1.1,(zX (r5.1.1+(1:Int))),([]:List S11),()),((r5.2.1.1,()),()))) λr6=>(some (((0:Int),(0:Int),()),((r6.2.2.1,()),())))) (Option.bind (cond p.1.1 (cond ((decide ((0:Int)<=r5.1.1))&&(decide (r5.1.1<(r5.2.1.1.length:Int)))) (some ((p.1.1,(),r1.1,r5.1.1,(),()),((r5.2.1.1,()),(p.1.2.1.1,p.1.2.1.2.1,p.1.2.1.2.2.1,p.1.2.1.2.2.2.1,p.1.2.1.2.2.2.2.1,p.1.2.1.2.2.2.2.2.1,p.1.2.1.2.2.2.2.2.2.1,p.1.2.1.2.2.2.2.2.2.2.1,p.1.2.1.2.2.2.2.2.2.2.2.1,p.1.2.1.2.2.2.2.2.2.2.2.2.1,()),((List.getD r5.2.1.1 r5.1.1.toNat k44).1,(List.getD r5.2.1.1 r5.1.1.toNat k44).2.1,(List.getD r5.2.1.1 r5.1.1.toNat k44).2.2.1,()),()))) none) none) λp7=>(Option.bind (Option.bind (F402 (((p7.2.2.2.1.1,p7.2.2.2.1.2.1,p7.2.2.2.1.2.2.1,()),p7.2.2.1.2.2.1,()),())) λr8=>(some ((p7.1.1,(),p7.1.2.2.1,p7.1.2.2.2.1,(),(),(),r8.1.2.2.1,()),((p7.2.1.1,()),(p7.2.2.1.1,p7.2.2.1.2.1,p7.2.2.1.2.2.1,p7.2.2.1.2.2.2.1,p7.2.2.1.2.2.2.2.1,p7.2.2.1.2.2.2.2.2.1,p7.2.2.1.2.2.2.2.2.2.1,p7.2.2.1.2.2.2.2.2.2.2.1,p7.2.2.1.2.2.2.2.2.2.2.2.1,p7.2.2.1.2.2.2.2.2.2.2.2.2.1,()),(p7.2.2.2.1.1,p7.2.2.2.1.2.1,p7.2.2.2.1.2.2.1,()),r8.2.1,(r8.1.2.1.1,r8.1.2.1.2.1,r8.1.2.1.2.2.1,r8.1.2.1.2.2.2.1,()),())))) λp9=>(((cond (decide (p9.2.2.1.1=(2:Int))) ((cond p9.1.2.2.2.2.2.2.2.1 (some (((0:Int),(10:Int),()),((p9.2.1.1,()),()))) ((cond ((decide ((6:Int)<=(p9.2.2.2.1.2.2.1.length:Int)))||(decide ((4294967295:Int)<=p9.2.2.2.1.2.1))) (some (((0:Int),(8:Int),()),((p9.2.1.1,()),()))) (((Option.bind (Option.bind (F403 ((p9.2.2.2.2.1,(p9.2.2.1.2.2.1,(zX (p9.2.2.2.1.2.1+(1:Int))),(1:Int),([]:List S8),()),()),())) λr16=>(some ((p9.1.1,p9.1.2.2.2.1,(),(zX (p9.2.2.2.1.2.1+(1:Int))),()),((p9.2.1.1,()),(p9.2.2.2.1.1,(zX (p9.2.2.2.1.2.1+(1:Int))),(),()),r16.2.1,())))) λp17=>(Option.bind (Option.bind (F401 ((p17.1.1,p17.1.2.1,(zX (p17.1.2.1+(1:Int))),([(p17.2.2.1.1,(p17.2.2.1.2.1,(p17.2.2.2.1,())))]:List S11),()),((p17.2.1.1,()),()))) λr18=>(some ((p17.1.1,p17.1.2.2.2.1,()),(((),()),r18.2.2.1,())))) λp19=>(some ((p19.1.2.1,(0:Int),()),((p19.2.2.1,()),()))))))))))) ((cond (!p9.1.2.2.2.2.2.2.2.1) (some (((0:Int),(9:Int),()),((p9.2.1.1,()),()))) ((cond (decide (p9.2.2.1.1=(7:Int))) (Option.bind (F404 ((p9.1.1,p9.1.2.2.2.1,(p9.2.2.1.1,p9.2.2.1.2.1,p9.2.2.1.2.2.1,p9.2.2.1.2.2.2.1,p9.2.2.1.2.2.2.2.1,p9.2.2.1.2.2.2.2.2.1,p9.2.2.1.2.2.2.2.2.2.1,p9.2.2.1.2.2.2.2.2.2.2.1,p9.2.2.1.2.2.2.2.2.2.2.2.1,p9.2.2.1.2.2.2.2.2.2.2.2.2.1,()),()),((p9.2.1.1,()),()))) λr22=>(some ((r22.1.1,r22.1.2.1,()),((r22.2.1.1,()),())))) (Option.bind (((cond (decide (p9.2.2.1.1=(3:Int))) ((cond (decide (p9.2.2.1.2.2.1=([73,78,66,79,88]:List UInt8))) (some (Sum.inr ((p9.1.1,(),(13:Int),()),((p9.2.1.1,()),())))) ((Option.bind (F401 ((p9.1.1,p9.1.2.2.2.1,(zX (p9.1.2.2.2.1+(1:Int))),([(p9.2.2.2.1.1,(p9.2.2.2.1.2.1,(p9.2.2.2.2.1,())))]:List S11),()),((p9.2.1.1,()),()))) λr27=>(some (Sum.inr ((p9.1.1,(),(0:Int),()),((r27.2.2.1,()),())))))))) (cond (decide (p9.2.2.1.1=(4:Int))) (Option.bind (F405 (((p9.2.2.2.2.2.1.1,p9.2.2.2.2.2.1.2.1,p9.2.2.2.2.2.1.2.2.1,p9.2.2.2.2.2.1.2.2.2.1,()),p9.2.2.1.2.2.2.2.2.2.1,p9.2.2.1.2.2.2.2.2.2.2.2.2.1,()),())) λr28=>(some (Sum.inl ((p9.1.1,r28.1.2.2.1,p9.1.2.2.2.1,(),(),(),r28.1.2.1,()),((p9.2.1.1,()),(p9.2.2.2.1.1,p9.2.2.2.1.2.1,p9.2.2.2.1.2.2.1,()),p9.2.2.2.2.1,(r28.1.1.1,r28.1.1.2.1,r28.1.1.2.2.1,r28.1.1.2.2.2.1,()),()))))) (cond (decide (p9.2.2.1.1=(5:Int))) (Option.bind (F406 (((p9.2.2.2.2.2.1.1,p9.2.2.2.2.2.1.2.1,p9.2.2.2.2.2.1.2.2.1,p9.2.2.2.2.2.1.2.2.2.1,()),p9.2.2.1.2.2.2.2.1,p9.2.2.1.2.2.2.2.2.1,p9.2.2.1.2.2.2.2.2.2.1,()),())) λr29=>(some (Sum.inl ((p9.1.1,r29.1.2.1,p9.1.2.2.2.1,(),(),(),(0:Int),()),((p9.2.1.1,()),(p9.2.2.2.1.1,p9.2.2.2.1.2.1,p9.2.2.2.1.2.2.1,()),p9.2.2.2.2.1,(r29.1.1.1,r29.1.1.2.1,r29.1.1.2.2.1,r29.1.1.2.2.2.1,()),()))))) (cond (decide (p9.2.2.1.1=(6:Int))) (Option.bind (F407 (((p9.2.2.2.2.2.1.1,p9.2.2.2.2.2.1.2.1,p9.2.2.2.2.2.1.2.2.1,p9.2.2.2.2.2.1.2.2.2.1,()),p9.2.2.1.2.2.2.2.1,()),())) λr30=>(some (Sum.inl ((p9.1.1,r30.1.2.1,p9.1.2.2.2.1,(),(),(),(0:Int),()),((p9.2.1.1,()),(p9.2.2.2.1.1,p9.2.2.2.1.2.1,p9.2.2.2.1.2.2.1,()),p9.2.2.2.2.1,(r30.1.1.1,r30.1.1.2.1,r30.1.1.2.2.1,r30.1.1.2.2.2.1,()),()))))) (some (Sum.inl ((p9.1.1,p9.1.2.2.1,p9.1.2.2.2.1,(),(),(),(0:Int),()),((p9.2.1.1,()),(p9.2.2.2.1.1,p9.2.2.2.1.2.1,p9.2.2.2.1.2.2.1,()),p9.2.2.2.2.1,(p9.2.2.2.2.2.1.1,p9.2.2.2.2.2.1.2.1,p9.2.2.2.2.2.1.2.2.1,p9.2.2.2.2.2.1.2.2.2.1,()),())))))))))) λp31=>(match p31 with | Sum.inl p32=>(cond (!(decide (p32.1.2.1=(0:Int)))) (some (((0:Int),p32.1.2.1,()),((p32.2.1.1,()),()))) (Option.bind (F403 ((p32.2.2.2.1,(p32.2.2.2.2.1.1,p32.2.2.2.2.1.2.1,p32.2.2.2.2.1.2.2.1,p32.2.2.2.2.1.2.2.2.1,()),()),())) λr33=>(Option.bind (F347 (((p32.2.2.1.1,p32.2.2.1.2.1,r33.2.1,()),()),())) λr34=>(cond (!(decide (r34.1=(0:Int)))) (some (((0:Int),(8:Int),()),((p32.2.1.1,()),()))) (Option.bind (F401 ((p32.1.1,p32.1.2.2.1,(zX (p32.1.2.2.1+(1:Int))),([(p32.2.2.1.1,(p32.2.2.1.2.1,(r33.2.1,())))]:List S11),()),((p32.2.1.1,()),()))) λr35=>(some ((p32.1.2.2.2.2.2.2.1,(0:Int),()),((r35.2.2.1,()),())))))))) | Sum.inr q32=>(some (((0:Int),q32.1.2.2.1,()),((q32.2.1.1,()),())))))))))))))))))))))
abbrev T364_0:Type:=((Bool×S45×(List S11)×Unit×Int×Unit)×(S55×S49×Unit))
abbrev R364_0:Type:=(((Bool×Unit×Unit)×(S55×S49×Unit))⊕((Bool×Unit×Int×Int×Unit)×(S55×S49×Unit)))
def B364_0 (p:T364_0):Option (T364_0⊕R364_0):=(cond (decide (p.1.2.2.2.2.1<(p.1.2.1.length:Int))) (cond ((decide ((0:Int)<=p.1.2.2.2.2.1))&&(decide (p.1.2.2.2.2.1<(p.1.2.1.length:Int)))) (Option.bind (ux ((p.1.1,((List.getD p.1.2.1 p.1.2.2.2.2.1.toNat yD).1,(List.getD p.1.2.1 p.1.2.2.2.2.1.toNat yD).2.1,(List.getD p.1.2.1 p.1.2.2.2.2.1.toNat yD).2.2.1,(List.getD p.1.2.1 p.1.2.2.2.2.1.toNat yD).2.2.2.1,(List.getD p.1.2.1 p.1.2.2.2.2.1.toNat yD).2.2.2.2.1,(List.getD p.1.2.1 p.1.2.2.2.2.1.toNat yD).2.2.2.2.2.1,(List.getD p.1.2.1 p.1.2.2.2.2.1.toNat yD).2.2.2.2.2.2.1,(List.getD p.1.2.1 p.1.2.2.2.2.1.toNat yD).2.2.2.2.2.2.2.1,(List.getD p.1.2.1 p.1.2.2.2.2.1.toNat yD).2.2.2.2.2.2.2.2.1,(List.getD p.1.2.1 p.1.2.2.2.2.1.toNat yD).2.2.2.2.2.2.2.2.2.1,()),()),(p.2.1,()))) λr1=>(cond (!(decide (r1.1.2.1=(0:Int)))) (cond p.1.1 (some (Sum.inr (Sum.inr ((p.1.1,(),p.1.2.2.2.2.1,r1.1.2),((p.1.2.2.1,()),([]:List Int),()))))) none) (cond (zC ((List.length p.2.2.1)+(List.length ([r1.1.1]:List Int))) 8) (some (Sum.inl ((p.1.1,p.1.2.1,p.1.2.2.1,(),(zX (p.1.2.2.2.2.1+(1:Int))),()),(r1.2.1,(p.2.2.1++([r1.1.1]:List Int)),())))) none))) none) (some (Sum.inr (Sum.inl ((p.1.1,(),()),(p.2.1,p.2.2))))))
def L364_0 (p:T364_0):Option R364_0:=zP B364_0 p
def F364 (p:(Bool×S45×Unit)×S94):Option (S68×(S55×S49×Unit)):=(cond (!p.1.1) (some (((),(0:Int),(1:Int),()),(p.2.1,([]:List Int),()))) (cond (decide ((p.1.2.1.length:Int)=(0:Int))) (some (((),(0:Int),(2:Int),()),(p.2.1,([]:List Int),()))) (cond (decide ((12:Int)<(p.1.2.1.length:Int))) (some (((),(0:Int),(6:Int),()),(p.2.1,([]:List Int),()))) (cond p.1.1 (Option.bind (Option.bind (L364_0 ((p.1.1,p.1.2.1,p.2.1.1,(),(0:Int),()),(p.2.1,([]:List Int),()))) λp2=>(match p2 with | Sum.inl p3=>(some (Sum.inl p3)) | Sum.inr q3=>(some (Sum.inr q3)))) λp4=>(match p4 with | Sum.inl p5=>(some (((),(0:Int),(0:Int),()),p5.2)) | Sum.inr q5=>(some (q5.1.2,q5.2)))) none))))
def F346 (p:(S79×S25×Unit)×Unit):Option ((S79×Int×Bool×Unit)×Unit):=(Option.bind (F323 ((p.1.1,p.1.2.1.2.1,()),())) λr1=>(cond (r1.1.2.1 == (decide (p.1.2.1.1=(1:Int)))) (some ((p.1.1,(0:Int),false,()),())) (Option.bind (F362 ((),())) λr2=>(Option.bind (cond r1.1.2.1 (Option.bind (cond ((decide ((0:Int)<=r1.1.1))&&(decide (r1.1.1<(p.1.1.length:Int)))) (some ((p.1.1,(),(),(),()),(p.1.2.1,((),()),((List.getD p.1.1 r1.1.1.toNat k48).1.1,(List.getD p.1.1 r1.1.1.toNat k48).1.2.1,(List.getD p.1.1 r1.1.1.toNat k48).1.2.2.1,(List.getD p.1.1 r1.1.1.toNat k48).2.1,()),r2.2.2))) none) λp3=>((some (p3.1,(p3.2.1,((),()),(p3.2.2.2.1.1,p3.2.2.2.1.2.1,p3.2.2.2.1.2.2.1,p3.2.2.2.1.2.2.2),([(p3.2.2.2.1.1,(p3.2.2.2.1.2.1,(p3.2.2.2.1.2.2.1,())))]:List S11),()))))) (some ((p.1.1,(),(),(),()),(p.1.2.1,((),()),(([]:List UInt8),(0:Int),([]:List S1),(1:Int),()),r2.2.2)))) λp5=>(cond (decide (p5.2.1.1=(9:Int))) (cond (!(decide ((zX (p5.2.1.2.2.2.2.2.2.2.2.1-(1:Int)))=p5.2.2.2.1.2.2.2.1))) (some ((p5.1.1,(0:Int),false,()),())) (Option.bind (F363 ((p5.1.1,(p5.2.2.2.1.1,p5.2.2.2.1.2.1,p5.2.2.2.1.2.2.1,p5.2.1.2.2.2.2.2.2.2.2.1,()),()),())) λr6=>(some ((r6.2.1,(0:Int),true,()),())))) (cond (decide (p5.2.1.1=(8:Int))) (Option.bind (F334 (((p5.2.2.2.1.1,p5.2.2.2.1.2.1,p5.2.2.2.1.2.2.1,()),()),())) λr7=>(some ((p5.1.1,(0:Int),(decide (r7.2.1=p5.2.1.2.2.2.2.2.2.2.2.2.1)),()),()))) (Option.bind (F364 ((true,([(p5.2.1.1,(p5.2.1.2.1,(p5.2.1.2.2.1,(p5.2.1.2.2.2.1,(p5.2.1.2.2.2.2.1,(p5.2.1.2.2.2.2.2.1,(p5.2.1.2.2.2.2.2.2.1,(p5.2.1.2.2.2.2.2.2.2.1,(p5.2.1.2.2.2.2.2.2.2.2.1,p5.2.1.2.2.2.2.2.2.2.2.2)))))))))]:List S2),()),(p5.2.2.2.2,()))) λr8=>(cond ((!(decide (r8.1.2.2.1=(0:Int))))||(!(decide ((r8.2.1.1.length:Int)=(1:Int))))) (some ((p5.1.1,(0:Int),false,()),())) (Option.bind (cond (decide ((0:Int)<(r8.2.1.1.length:Int))) (some ((p5.1.1,(),(),()),(((List.getD r8.2.1.1 0 k44).1,(List.getD r8.2.1.1 0 k44).2.1,(List.getD r8.2.1.1 0 k44).2.2.1,p5.2.2.2.1.2.2.2),r8.2.2))) none) λp9=>(cond (decide ((0:Int)<(p9.2.2.1.length:Int))) (Option.bind (F363 ((p9.1.1,p9.2.1,()),())) λr10=>(some ((r10.2.1,(List.getD p9.2.2.1 0 (0:Int)),true,()),()))) none))))))))))
def F333 (p:(Unit×Int×(Int×S45×Bool×Bool×Unit)×Unit)×S93):Option (Unit×((S79×Unit×Unit)×S65×Unit)):=(Option.bind (cond (zC ((List.length ([]:List S14))+(List.length p.2.1.2.1)) 40) (some (((),p.1.2.1,(),(),()),(p.2.1,p.1.2.2.1,(([]:List S14)++p.2.1.2.1),()))) none) λp1=>(Option.bind (cond ((decide ((0:Int)<=p1.1.2.1))&&(decide (p1.1.2.1<(p1.2.2.2.1.length:Int)))) (some (((),(),()),(p1.2.1,(List.set p1.2.2.2.1 p1.1.2.1.toNat p1.2.2.1),()))) none) λp2=>((some ((),((p2.2.1.1,(),()),p2.2.2))))))
abbrev T331_0:Type:=((Unit×Unit×Int×Unit×S79×Int×Unit)×(S37×S24×(Int×S45×Bool×Bool×Unit)×Unit))
abbrev R331_0:Type:=(((Unit×Int×Unit×S79×Unit)×(S37×(Int×S45×Bool×Bool×Unit)×Unit))⊕(S71×S93))
def B331_0 (p:T331_0):Option (T331_0⊕R331_0):=(cond (decide (p.1.2.2.2.2.2.1<(p.2.2.1.2.2.2.2.2.2.1.length:Int))) (cond ((decide ((0:Int)<=p.1.2.2.2.2.2.1))&&(decide (p.1.2.2.2.2.2.1<(p.2.2.1.2.2.2.2.2.2.1.length:Int)))) (Option.bind (F346 ((p.1.2.2.2.2.1,((List.getD p.2.2.1.2.2.2.2.2.2.1 p.1.2.2.2.2.2.1.toNat yD).1,(List.getD p.2.2.1.2.2.2.2.2.2.1 p.1.2.2.2.2.2.1.toNat yD).2.1,(List.getD p.2.2.1.2.2.2.2.2.2.1 p.1.2.2.2.2.2.1.toNat yD).2.2.1,(List.getD p.2.2.1.2.2.2.2.2.2.1 p.1.2.2.2.2.2.1.toNat yD).2.2.2.1,(List.getD p.2.2.1.2.2.2.2.2.2.1 p.1.2.2.2.2.2.1.toNat yD).2.2.2.2.1,(List.getD p.2.2.1.2.2.2.2.2.2.1 p.1.2.2.2.2.2.1.toNat yD).2.2.2.2.2.1,(List.getD p.2.2.1.2.2.2.2.2.2.1 p.1.2.2.2.2.2.1.toNat yD).2.2.2.2.2.2.1,(List.getD p.2.2.1.2.2.2.2.2.2.1 p.1.2.2.2.2.2.1.toNat yD).2.2.2.2.2.2.2.1,(List.getD p.2.2.1.2.2.2.2.2.2.1 p.1.2.2.2.2.2.1.toNat yD).2.2.2.2.2.2.2.2.1,(List.getD p.2.2.1.2.2.2.2.2.2.1 p.1.2.2.2.2.2.1.toNat yD).2.2.2.2.2.2.2.2.2.1,()),()),())) λr14=>(cond (((decide ((0:Int)<=p.1.2.2.2.2.2.1))&&(decide (p.1.2.2.2.2.2.1<(p.2.2.1.2.2.2.2.2.2.2.1.length:Int))))||(!r14.1.2.2.1)) (cond ((!r14.1.2.2.1)||(!(decide (r14.1.2.1=(List.getD p.2.2.1.2.2.2.2.2.2.2.1 p.1.2.2.2.2.2.1.toNat (0:Int)))))) (some (Sum.inr (Sum.inr (((),(),()),(p.2.1,()))))) (some (Sum.inl (((),(),p.1.2.2.1,(),r14.1.1,(zX (p.1.2.2.2.2.2.1+(1:Int))),()),(p.2.1,p.2.2))))) none)) none) (some (Sum.inr (Sum.inl (((),p.1.2.2.1,(),p.1.2.2.2.2.1,()),(p.2.1,p.2.2.2))))))
def L331_0 (p:T331_0):Option R331_0:=zP B331_0 p
def F331 (p:(Unit×S24×Unit)×S93):Option (Int×S93):=(Option.bind (F332 (((),p.1.2.1.2.1,()),((p.2.1.1,p.2.1.2.1,()),()))) λr1=>(cond (decide (r1.1<(0:Int))) (some ((9:Int),((r1.2.1.1,r1.2.1.2.1,()),()))) (Option.bind (cond ((decide ((0:Int)<=r1.1))&&(decide (r1.1<(r1.2.1.2.1.length:Int)))) (some (((),(),r1.1,(),()),((r1.2.1.1,r1.2.1.2.1,()),(p.1.2.1.1,p.1.2.1.2.1,p.1.2.1.2.2.1,p.1.2.1.2.2.2.1,p.1.2.1.2.2.2.2.1,p.1.2.1.2.2.2.2.2.1,p.1.2.1.2.2.2.2.2.2.1,p.1.2.1.2.2.2.2.2.2.2.1,p.1.2.1.2.2.2.2.2.2.2.2.1,p.1.2.1.2.2.2.2.2.2.2.2.2.1,p.1.2.1.2.2.2.2.2.2.2.2.2.2.1,()),((List.getD r1.2.1.2.1 r1.1.toNat k47).1,(List.getD r1.2.1.2.1 r1.1.toNat k47).2.1,(List.getD r1.2.1.2.1 r1.1.toNat k47).2.2.1,(List.getD r1.2.1.2.1 r1.1.toNat k47).2.2.2.1,()),()))) none) λp2=>((cond (p2.2.2.2.1.2.2.1||p2.2.2.2.1.2.2.2.1) (some ((13:Int),((p2.2.1.1,p2.2.1.2.1,()),()))) (Option.bind (cond (zC ((List.length ([]:List S2))+(List.length p2.2.2.2.1.2.1)) 120) (some (((),(),p2.1.2.2.1,(),(),()),((p2.2.1.1,p2.2.1.2.1,()),(p2.2.2.1.1,p2.2.2.1.2.1,p2.2.2.1.2.2.1,p2.2.2.1.2.2.2.1,p2.2.2.1.2.2.2.2.1,p2.2.2.1.2.2.2.2.2.1,p2.2.2.1.2.2.2.2.2.2.1,p2.2.2.1.2.2.2.2.2.2.2.1,p2.2.2.1.2.2.2.2.2.2.2.2.1,p2.2.2.1.2.2.2.2.2.2.2.2.2.1,p2.2.2.1.2.2.2.2.2.2.2.2.2.2.1,()),(p2.2.2.2.1.1,p2.2.2.2.1.2.1,p2.2.2.2.1.2.2.1,p2.2.2.2.1.2.2.2.1,()),(([]:List S2)++p2.2.2.2.1.2.1),()))) none) λp4=>(Option.bind (Option.bind (cond (decide ((0:Int)<(p4.2.2.2.2.1.length:Int))) (some (((),(),p4.1.2.2.1,(),(),(decide ((List.getD p4.2.2.2.2.1 0 yD).1=(9:Int))),()),((p4.2.1.1,p4.2.1.2.1,()),(p4.2.2.1.1,p4.2.2.1.2.1,p4.2.2.1.2.2.1,p4.2.2.1.2.2.2.1,p4.2.2.1.2.2.2.2.1,p4.2.2.1.2.2.2.2.2.1,p4.2.2.1.2.2.2.2.2.2.1,p4.2.2.1.2.2.2.2.2.2.2.1,p4.2.2.1.2.2.2.2.2.2.2.2.1,p4.2.2.1.2.2.2.2.2.2.2.2.2.1,p4.2.2.1.2.2.2.2.2.2.2.2.2.2.1,()),(p4.2.2.2.1.1,p4.2.2.2.1.2.1,p4.2.2.2.1.2.2.1,p4.2.2.2.1.2.2.2.1,()),p4.2.2.2.2.1,()))) none) λp5=>(cond p5.1.2.2.2.2.2.1 ((cond (!(decide ((p5.2.2.1.2.2.2.2.2.2.1.length:Int)=(2:Int)))) (some (Sum.inr (((),(),()),((p5.2.1.1,p5.2.1.2.1,()),())))) (Option.bind (cond (decide ((0:Int)<(p5.2.2.1.2.2.2.2.2.2.1.length:Int))) (cond (decide ((0:Int)<(p5.2.2.2.2.1.length:Int))) (some (((),(),p5.1.2.2.1,(),(),()),((p5.2.1.1,p5.2.1.2.1,()),(p5.2.2.1.1,p5.2.2.1.2.1,p5.2.2.1.2.2.1,p5.2.2.1.2.2.2.1,p5.2.2.1.2.2.2.2.1,p5.2.2.1.2.2.2.2.2.1,p5.2.2.1.2.2.2.2.2.2.1,p5.2.2.1.2.2.2.2.2.2.2.1,p5.2.2.1.2.2.2.2.2.2.2.2.1,p5.2.2.1.2.2.2.2.2.2.2.2.2.1,p5.2.2.1.2.2.2.2.2.2.2.2.2.2.1,()),(p5.2.2.2.1.1,p5.2.2.2.1.2.1,p5.2.2.2.1.2.2.1,p5.2.2.2.1.2.2.2.1,()),(List.set p5.2.2.2.2.1 0 ((List.getD p5.2.2.2.2.1 0 yD).1,((List.getD p5.2.2.2.2.1 0 yD).2.1,((List.getD p5.2.2.2.2.1 0 yD).2.2.1,((List.getD p5.2.2.2.2.1 0 yD).2.2.2.1,((List.getD p5.2.2.2.2.1 0 yD).2.2.2.2.1,((List.getD p5.2.2.2.2.1 0 yD).2.2.2.2.2.1,((List.getD p5.2.2.2.2.1 0 yD).2.2.2.2.2.2.1,((List.getD p5.2.2.2.2.1 0 yD).2.2.2.2.2.2.2.1,((List.getD p5.2.2.1.2.2.2.2.2.2.1 0 yD).2.2.2.2.2.2.2.2.1,((List.getD p5.2.2.2.2.1 0 yD).2.2.2.2.2.2.2.2.2.1,()))))))))))),()))) none) none) λp7=>(Option.bind (cond (decide ((1:Int)<(p7.2.2.1.2.2.2.2.2.2.1.length:Int))) (some (((),(),p7.1.2.2.1,(),(),(),()),((p7.2.1.1,p7.2.1.2.1,()),(p7.2.2.1.1,p7.2.2.1.2.1,p7.2.2.1.2.2.1,p7.2.2.1.2.2.2.1,p7.2.2.1.2.2.2.2.1,p7.2.2.1.2.2.2.2.2.1,p7.2.2.1.2.2.2.2.2.2.1,p7.2.2.1.2.2.2.2.2.2.2.1,p7.2.2.1.2.2.2.2.2.2.2.2.1,p7.2.2.1.2.2.2.2.2.2.2.2.2.1,p7.2.2.1.2.2.2.2.2.2.2.2.2.2.1,()),(p7.2.2.2.1.1,p7.2.2.2.1.2.1,p7.2.2.2.1.2.2.1,p7.2.2.2.1.2.2.2.1,()),p7.2.2.2.2.1,((List.getD p7.2.2.1.2.2.2.2.2.2.1 1 yD).1,(List.getD p7.2.2.1.2.2.2.2.2.2.1 1 yD).2.1,(List.getD p7.2.2.1.2.2.2.2.2.2.1 1 yD).2.2.1,(List.getD p7.2.2.1.2.2.2.2.2.2.1 1 yD).2.2.2.1,(List.getD p7.2.2.1.2.2.2.2.2.2.1 1 yD).2.2.2.2.1,(List.getD p7.2.2.1.2.2.2.2.2.2.1 1 yD).2.2.2.2.2.1,(List.getD p7.2.2.1.2.2.2.2.2.2.1 1 yD).2.2.2.2.2.2.1,(List.getD p7.2.2.1.2.2.2.2.2.2.1 1 yD).2.2.2.2.2.2.2.1,(List.getD p7.2.2.1.2.2.2.2.2.2.1 1 yD).2.2.2.2.2.2.2.2.1,(List.getD p7.2.2.1.2.2.2.2.2.2.1 1 yD).2.2.2.2.2.2.2.2.2.1,()),()))) none) λp8=>(Option.bind (cond ((decide ((0:Int)<(p8.2.2.2.2.1.length:Int)))||(!(decide (p8.2.2.2.2.2.1.1=(8:Int))))) (cond ((decide ((0:Int)<(p8.2.2.2.2.1.length:Int)))||((!(decide (p8.2.2.2.2.2.1.1=(8:Int))))||(!(decide (p8.2.2.2.2.2.1.2.1=(List.getD p8.2.2.2.2.1 0 yD).2.1))))) (some (((),(),p8.1.2.2.1,(),(),(),(((!(decide (p8.2.2.2.2.2.1.1=(8:Int))))||(!(decide (p8.2.2.2.2.2.1.2.1=(List.getD p8.2.2.2.2.1 0 yD).2.1))))||(!(decide (p8.2.2.2.2.2.1.2.2.2.2.2.2.2.2.1=(List.getD p8.2.2.2.2.1 0 yD).2.2.2.2.2.2.2.2.1)))),()),((p8.2.1.1,p8.2.1.2.1,()),(p8.2.2.1.1,p8.2.2.1.2.1,p8.2.2.1.2.2.1,p8.2.2.1.2.2.2.1,p8.2.2.1.2.2.2.2.1,p8.2.2.1.2.2.2.2.2.1,p8.2.2.1.2.2.2.2.2.2.1,p8.2.2.1.2.2.2.2.2.2.2.1,p8.2.2.1.2.2.2.2.2.2.2.2.1,p8.2.2.1.2.2.2.2.2.2.2.2.2.1,p8.2.2.1.2.2.2.2.2.2.2.2.2.2.1,()),(p8.2.2.2.1.1,p8.2.2.2.1.2.1,p8.2.2.2.1.2.2.1,p8.2.2.2.1.2.2.2.1,()),p8.2.2.2.2.1,(p8.2.2.2.2.2.1.1,p8.2.2.2.2.2.1.2.1,p8.2.2.2.2.2.1.2.2.1,p8.2.2.2.2.2.1.2.2.2.1,p8.2.2.2.2.2.1.2.2.2.2.1,p8.2.2.2.2.2.1.2.2.2.2.2.1,p8.2.2.2.2.2.1.2.2.2.2.2.2.1,p8.2.2.2.2.2.1.2.2.2.2.2.2.2.1,p8.2.2.2.2.2.1.2.2.2.2.2.2.2.2.1,p8.2.2.2.2.2.1.2.2.2.2.2.2.2.2.2.1,()),()))) none) none) λp9=>(cond p9.1.2.2.2.2.2.2.1 (some (Sum.inr (((),(),()),((p9.2.1.1,p9.2.1.2.1,()),())))) (Option.bind (cond (zC ((List.length p9.2.2.2.2.1)+(List.length ([(p9.2.2.2.2.2.1.1,(p9.2.2.2.2.2.1.2.1,(p9.2.2.2.2.2.1.2.2.1,(p9.2.2.2.2.2.1.2.2.2.1,(p9.2.2.2.2.2.1.2.2.2.2.1,(p9.2.2.2.2.2.1.2.2.2.2.2.1,(p9.2.2.2.2.2.1.2.2.2.2.2.2.1,(p9.2.2.2.2.2.1.2.2.2.2.2.2.2.1,(p9.2.2.2.2.2.1.2.2.2.2.2.2.2.2.1,(p9.2.2.2.2.2.1.2.2.2.2.2.2.2.2.2.1,()))))))))))]:List S2))) 120) (some (((),(),p9.1.2.2.1,(),(),()),((p9.2.1.1,p9.2.1.2.1,()),(p9.2.2.1.1,p9.2.2.1.2.1,p9.2.2.1.2.2.1,p9.2.2.1.2.2.2.1,p9.2.2.1.2.2.2.2.1,p9.2.2.1.2.2.2.2.2.1,p9.2.2.1.2.2.2.2.2.2.1,p9.2.2.1.2.2.2.2.2.2.2.1,p9.2.2.1.2.2.2.2.2.2.2.2.1,p9.2.2.1.2.2.2.2.2.2.2.2.2.1,p9.2.2.1.2.2.2.2.2.2.2.2.2.2.1,()),(p9.2.2.2.1.1,p9.2.2.2.1.2.1,p9.2.2.2.1.2.2.1,p9.2.2.2.1.2.2.2.1,()),(p9.2.2.2.2.1++([(p9.2.2.2.2.2.1.1,(p9.2.2.2.2.2.1.2.1,(p9.2.2.2.2.2.1.2.2.1,(p9.2.2.2.2.2.1.2.2.2.1,(p9.2.2.2.2.2.1.2.2.2.2.1,(p9.2.2.2.2.2.1.2.2.2.2.2.1,(p9.2.2.2.2.2.1.2.2.2.2.2.2.1,(p9.2.2.2.2.2.1.2.2.2.2.2.2.2.1,(p9.2.2.2.2.2.1.2.2.2.2.2.2.2.2.1,(p9.2.2.2.2.2.1.2.2.2.2.2.2.2.2.2.1,()))))))))))]:List S2)),()))) none) λp10=>(some (Sum.inl (((),(),p10.1.2.2.1,(),(),()),((p10.2.1.1,p10.2.1.2.1,()),(p10.2.2.1.1,p10.2.2.1.2.1,p10.2.2.1.2.2.1,p10.2.2.1.2.2.2.1,p10.2.2.1.2.2.2.2.1,p10.2.2.1.2.2.2.2.2.1,p10.2.2.1.2.2.2.2.2.2.1,p10.2.2.1.2.2.2.2.2.2.2.1,p10.2.2.1.2.2.2.2.2.2.2.2.1,p10.2.2.1.2.2.2.2.2.2.2.2.2.1,p10.2.2.1.2.2.2.2.2.2.2.2.2.2.1,()),(p10.2.2.2.1.1,p10.2.2.2.1.2.1,p10.2.2.2.1.2.2.1,p10.2.2.2.1.2.2.2.1,()),p10.2.2.2.2.1,()))))))))))) (some (Sum.inl (((),(),p5.1.2.2.1,(),(),()),((p5.2.1.1,p5.2.1.2.1,()),(p5.2.2.1.1,p5.2.2.1.2.1,p5.2.2.1.2.2.1,p5.2.2.1.2.2.2.1,p5.2.2.1.2.2.2.2.1,p5.2.2.1.2.2.2.2.2.1,p5.2.2.1.2.2.2.2.2.2.1,p5.2.2.1.2.2.2.2.2.2.2.1,p5.2.2.1.2.2.2.2.2.2.2.2.1,p5.2.2.1.2.2.2.2.2.2.2.2.2.1,p5.2.2.1.2.2.2.2.2.2.2.2.2.2.1,()),(p5.2.2.2.1.1,p5.2.2.2.1.2.1,p5.2.2.2.1.2.2.1,p5.2.2.2.1.2.2.2.1,()),p5.2.2.2.2.1,())))))) λp11=>(match p11 with | Sum.inl p12=>(Option.bind (F345 ((p12.2.2.2.2.1,p12.2.2.1.2.2.2.2.2.2.1,()),())) λr13=>(cond ((!r13.1)||(!(decide ((p12.2.2.1.2.2.2.2.2.2.2.1.length:Int)=(p12.2.2.1.2.2.2.2.2.2.1.length:Int))))) (some ((4:Int),((p12.2.1.1,p12.2.1.2.1,()),()))) (Option.bind (Option.bind (L331_0 (((),(),p12.1.2.2.1,(),p12.2.1.1,(0:Int),()),((p12.2.1.1,p12.2.1.2.1,()),(p12.2.2.1.1,p12.2.2.1.2.1,p12.2.2.1.2.2.1,p12.2.2.1.2.2.2.1,p12.2.2.1.2.2.2.2.1,p12.2.2.1.2.2.2.2.2.1,p12.2.2.1.2.2.2.2.2.2.1,p12.2.2.1.2.2.2.2.2.2.2.1,p12.2.2.1.2.2.2.2.2.2.2.2.1,p12.2.2.1.2.2.2.2.2.2.2.2.2.1,p12.2.2.1.2.2.2.2.2.2.2.2.2.2.1,()),(p12.2.2.2.1.1,p12.2.2.2.1.2.1,p12.2.2.2.1.2.2.1,p12.2.2.2.1.2.2.2.1,()),()))) λp15=>(match p15 with | Sum.inl p16=>(some (Sum.inl (((),p16.1.2.1,(),p16.1.2.2.2.1,()),((p16.2.1.1,p16.2.1.2.1,()),(p16.2.2.1.1,p16.2.2.1.2.1,p16.2.2.1.2.2.1,p16.2.2.1.2.2.2.1,()),())))) | Sum.inr q16=>(some (Sum.inr (((),(),()),((q16.2.1.1,q16.2.1.2.1,()),())))))) λp17=>(match p17 with | Sum.inl p18=>(Option.bind (F333 (((),p18.1.2.1,(p18.2.2.1.1,p18.2.2.1.2.1,true,p18.2.2.1.2.2.2.1,()),()),((p18.1.2.2.2.1,p18.2.1.2.1,()),()))) λr19=>(some ((0:Int),((r19.2.1.1,r19.2.2.1,()),())))) | Sum.inr q18=>(some ((4:Int),((q18.2.1.1,q18.2.1.2.1,()),()))))))) | Sum.inr q12=>(some ((4:Int),((q12.2.1.1,q12.2.1.2.1,()),())))))))))))
abbrev T316_1:Type:=((Unit×Unit×Unit×Int×Unit)×(S37×S24×S45×Unit))
abbrev R316_1:Type:=(S53×(S37×S24×S45×Unit))
def B316_1 (p:T316_1):Option (T316_1⊕R316_1):=(cond (decide (p.1.2.2.2.1<(p.2.2.1.2.2.2.2.2.2.1.length:Int))) (Option.bind (cond ((decide ((0:Int)<=p.1.2.2.2.1))&&(decide (p.1.2.2.2.1<(p.2.2.1.2.2.2.2.2.2.1.length:Int)))) (some (((),(),(),p.1.2.2.2.1,(),()),(p.2.1,p.2.2.1,p.2.2.2.1,((List.getD p.2.2.1.2.2.2.2.2.2.1 p.1.2.2.2.1.toNat yD).1,(List.getD p.2.2.1.2.2.2.2.2.2.1 p.1.2.2.2.1.toNat yD).2.1,(List.getD p.2.2.1.2.2.2.2.2.2.1 p.1.2.2.2.1.toNat yD).2.2.1,(List.getD p.2.2.1.2.2.2.2.2.2.1 p.1.2.2.2.1.toNat yD).2.2.2.1,(List.getD p.2.2.1.2.2.2.2.2.2.1 p.1.2.2.2.1.toNat yD).2.2.2.2.1,(List.getD p.2.2.1.2.2.2.2.2.2.1 p.1.2.2.2.1.toNat yD).2.2.2.2.2.1,(List.getD p.2.2.1.2.2.2.2.2.2.1 p.1.2.2.2.1.toNat yD).2.2.2.2.2.2.1,(List.getD p.2.2.1.2.2.2.2.2.2.1 p.1.2.2.2.1.toNat yD).2.2.2.2.2.2.2.1,(List.getD p.2.2.1.2.2.2.2.2.2.1 p.1.2.2.2.1.toNat yD).2.2.2.2.2.2.2.2.1,(List.getD p.2.2.1.2.2.2.2.2.2.1 p.1.2.2.2.1.toNat yD).2.2.2.2.2.2.2.2.2.1,()),()))) none) λp7=>(Option.bind (cond (zC (0+(List.length p7.2.2.2.2.1.2.2.2.2.2.2.2.2.2.1)) 1) (some (p7.1,(p7.2.1,p7.2.2.1,p7.2.2.2.1,(p7.2.2.2.2.1.1,p7.2.2.2.2.1.2.1,p7.2.2.2.2.1.2.2.1,p7.2.2.2.2.1.2.2.2.1,p7.2.2.2.2.1.2.2.2.2.1,p7.2.2.2.2.1.2.2.2.2.2.1,p7.2.2.2.2.1.2.2.2.2.2.2.1,p7.2.2.2.2.1.2.2.2.2.2.2.2.1,p7.2.2.2.2.1.2.2.2.2.2.2.2.2.1,(),()),(([]:List UInt8)++p7.2.2.2.2.1.2.2.2.2.2.2.2.2.2.1),()))) none) λp8=>(Option.bind (cond (zC ((List.length p8.2.2.2.1)+(List.length ([(p8.2.2.2.2.1.1,(p8.2.2.2.2.1.2.1,(p8.2.2.2.2.1.2.2.1,(p8.2.2.2.2.1.2.2.2.1,(p8.2.2.2.2.1.2.2.2.2.1,(p8.2.2.2.2.1.2.2.2.2.2.1,(p8.2.2.2.2.1.2.2.2.2.2.2.1,(p8.2.2.2.2.1.2.2.2.2.2.2.2.1,(p8.2.2.2.2.1.2.2.2.2.2.2.2.2.1,p8.2.2.2.2.2)))))))))]:List S2))) 120) (some (((),(),(),p8.1.2.2.2.1,()),(p8.2.1,p8.2.2.1,(p8.2.2.2.1++([(p8.2.2.2.2.1.1,(p8.2.2.2.2.1.2.1,(p8.2.2.2.2.1.2.2.1,(p8.2.2.2.2.1.2.2.2.1,(p8.2.2.2.2.1.2.2.2.2.1,(p8.2.2.2.2.1.2.2.2.2.2.1,(p8.2.2.2.2.1.2.2.2.2.2.2.1,(p8.2.2.2.2.1.2.2.2.2.2.2.2.1,(p8.2.2.2.2.1.2.2.2.2.2.2.2.2.1,p8.2.2.2.2.2)))))))))]:List S2)),()))) none) λp9=>((some (Sum.inl (((),(),(),(zX (p9.1.2.2.2.1+(1:Int))),()),p9.2))))))) (some (Sum.inr (((),(),(),()),p.2))))
def L316_1 (p:T316_1):Option R316_1:=zP B316_1 p
abbrev T316_0:Type:=(tO×(S37×S24×Unit))
abbrev R316_0:Type:=((S71×(S37×S24×Unit))⊕(S71×S93))
def B316_0 (p:T316_0):Option (T316_0⊕R316_0):=(cond (decide (p.1.2.2.1<(p.2.2.1.2.2.2.2.2.2.1.length:Int))) (cond ((decide ((0:Int)<=p.1.2.2.1))&&(decide (p.1.2.2.1<(p.2.2.1.2.2.2.2.2.2.1.length:Int)))) (cond (((decide ((0:Int)<=p.1.2.2.1))&&(decide (p.1.2.2.1<(p.2.2.1.2.2.2.2.2.2.1.length:Int))))||(decide ((List.getD p.2.2.1.2.2.2.2.2.2.1 p.1.2.2.1.toNat yD).1=(8:Int)))) (cond ((decide ((List.getD p.2.2.1.2.2.2.2.2.2.1 p.1.2.2.1.toNat yD).1=(8:Int)))||((decide ((List.getD p.2.2.1.2.2.2.2.2.2.1 p.1.2.2.1.toNat yD).1=(9:Int)))&&(!(decide ((p.2.2.1.2.2.2.2.2.2.1.length:Int)=(1:Int)))))) (some (Sum.inr (Sum.inr (((),(),()),(p.2.1,()))))) (some (Sum.inl (((),(),(zX (p.1.2.2.1+(1:Int))),()),(p.2.1,p.2.2))))) none) none) (some (Sum.inr (Sum.inl (((),(),()),(p.2.1,p.2.2))))))
def L316_0 (p:T316_0):Option R316_0:=zP B316_0 p
def uT (p:(Unit×S24×Unit)×S93):Option (Int×S93):=(cond (decide (p.1.2.1.1=(1:Int))) (cond (((decide ((0:Int)<=(zX ((p.2.1.2.1.length:Int)-(1:Int)))))&&(decide ((zX ((p.2.1.2.1.length:Int)-(1:Int)))<(p.2.1.2.1.length:Int))))||(!((decide ((0:Int)<(p.2.1.2.1.length:Int)))&&(!(decide (p.1.2.1.2.1<(1:Int))))))) (cond ((decide (p.1.2.1.2.1<(1:Int)))||((decide ((0:Int)<(p.2.1.2.1.length:Int)))&&(decide (p.1.2.1.2.1<=(List.getD p.2.1.2.1 (Int.toNat (zX ((p.2.1.2.1.length:Int)-(1:Int)))) k47).1)))) (some ((2:Int),p.2)) (cond ((decide ((p.1.2.1.2.2.2.2.2.2.1.length:Int)<(1:Int)))||(decide ((12:Int)<(p.1.2.1.2.2.2.2.2.2.1.length:Int)))) (some ((4:Int),p.2)) (Option.bind (Option.bind (L316_0 (k50,(p.2.1,(p.1.2.1.1,p.1.2.1.2.1,p.1.2.1.2.2),()))) λp1=>(match p1 with | Sum.inl p2=>(some (Sum.inl (((),(),()),p2.2))) | Sum.inr q2=>(some (Sum.inr (((),(),()),q2.2))))) λp3=>(match p3 with | Sum.inl p4=>((Option.bind ((Option.bind (L316_1 (((),(),(),(0:Int),()),(p4.2.1,p4.2.2.1,([]:List S2),()))) λp11=>(some (((),(),(),()),p11.2)))) λp12=>(Option.bind (agr (agr (cond (zC ((List.length ([]:List S14))+(List.length p12.2.1.2.1)) 40) (cond (decide (p12.2.2.1.2.1=p12.2.2.1.2.1)) (cond (zC ((List.length (([]:List S14)++p12.2.1.2.1))+(List.length ([(p12.2.2.1.2.1,(p12.2.2.2.1,(false,(false,()))))]:List S14))) 40) (some (((),()),((p12.2.1.1,(),()),((([]:List S14)++p12.2.1.2.1)++([(p12.2.2.1.2.1,(p12.2.2.2.1,(false,(false,()))))]:List S14)),()))) none) none) none) (cond (zC ((List.length ([]:List S14))+(List.length p12.2.1.2.1)) 40) (cond (decide (p12.2.2.1.2.1=p12.2.2.1.2.1)) (cond (zC ((List.length (([]:List S14)++p12.2.1.2.1))+(List.length ([(p12.2.2.1.2.1,(p12.2.2.2.1,(false,(false,()))))]:List S14))) 40) (some (((),()),((p12.2.1.1,(),()),((([]:List S14)++p12.2.1.2.1)++([(p12.2.2.1.2.1,(p12.2.2.2.1,(false,(false,()))))]:List S14)),()))) none) none) none)) (cond (zC ((List.length ([]:List S14))+(List.length p12.2.1.2.1)) 40) (cond (decide (p12.2.2.1.2.1=p12.2.2.1.2.1)) (cond (zC ((List.length (([]:List S14)++p12.2.1.2.1))+(List.length ([(p12.2.2.1.2.1,(p12.2.2.2.1,(false,(false,()))))]:List S14))) 40) (some (((),()),((p12.2.1.1,(),()),((([]:List S14)++p12.2.1.2.1)++([(p12.2.2.1.2.1,(p12.2.2.2.1,(false,(false,()))))]:List S14)),()))) none) none) none)) λp13=>((some ((0:Int),((p13.2.1.1,p13.2.2),()))))))) | Sum.inr q4=>(some ((4:Int),q4.2)))))) none) (cond (decide (p.1.2.1.1=(2:Int))) (Option.bind (F331 (((),(p.1.2.1.1,p.1.2.1.2.1,p.1.2.1.2.2),()),p.2)) λr15=>(some r15)) (cond (decide (p.1.2.1.1=(3:Int))) (Option.bind (F332 (((),p.1.2.1.2.1,()),p.2)) λr16=>(cond (decide (r16.1<(0:Int))) (some ((9:Int),r16.2)) (Option.bind (cond ((decide ((0:Int)<=r16.1))&&(decide (r16.1<(r16.2.1.2.1.length:Int)))) (some (((),(),r16.1,(),()),(r16.2.1,(p.1.2.1.1,p.1.2.1.2.1,p.1.2.1.2.2),((List.getD r16.2.1.2.1 r16.1.toNat k47).1,(List.getD r16.2.1.2.1 r16.1.toNat k47).2.1,(List.getD r16.2.1.2.1 r16.1.toNat k47).2.2.1,(List.getD r16.2.1.2.1 r16.1.toNat k47).2.2.2.1,()),()))) none) λp17=>((cond p17.2.2.2.1.2.2.2.1 (some ((13:Int),(p17.2.1,()))) ((cond (!(p17.2.2.2.1.2.2.1 == (decide (p17.2.2.1.2.2.2.2.2.2.2.2.2.2.1=(0:Int))))) (some ((4:Int),(p17.2.1,()))) ((Option.bind (F333 (((),p17.1.2.2.1,(p17.2.2.2.1.1,p17.2.2.2.1.2.1,p17.2.2.2.1.2.2.1,true,()),()),(p17.2.1,()))) λr21=>(some ((0:Int),((r21.2.1.1,r21.2.2),())))))))))))) (cond (decide (p.1.2.1.1=(4:Int))) (Option.bind (F323 ((p.2.1.1,p.1.2.1.2.2.2.2.2.2.2.2.1,()),())) λr22=>(cond (!r22.1.2.1) (some ((9:Int),p.2)) (cond ((decide ((0:Int)<=r22.1.1))&&(decide (r22.1.1<(p.2.1.1.length:Int)))) (Option.bind (F334 ((((List.getD p.2.1.1 r22.1.1.toNat k48).1.1,(List.getD p.2.1.1 r22.1.1.toNat k48).1.2.1,(List.getD p.2.1.1 r22.1.1.toNat k48).1.2.2.1,()),()),())) λr23=>(cond (!(decide (r23.2.1=p.1.2.1.2.2.2.2.2.2.2.2.2.1))) (some ((4:Int),p.2)) (some ((0:Int),p.2)))) none))) (some ((14:Int),p.2))))))
abbrev T307_0:Type:=(((List S21)×Unit×Int×Unit)×S93)
abbrev R307_0:Type:=((S107×Unit)⊕(S86×Unit))
def wc (p:T307_0):Option (T307_0⊕R307_0):=(cond (decide (p.1.2.2.1<(p.1.1.length:Int))) (cond ((decide ((0:Int)<=p.1.2.2.1))&&(decide (p.1.2.2.1<(p.1.1.length:Int)))) (Option.bind (uT (((),((List.getD p.1.1 p.1.2.2.1.toNat k43).1,(List.getD p.1.1 p.1.2.2.1.toNat k43).2.1,(List.getD p.1.1 p.1.2.2.1.toNat k43).2.2.1,(List.getD p.1.1 p.1.2.2.1.toNat k43).2.2.2.1.1,(List.getD p.1.1 p.1.2.2.1.toNat k43).2.2.2.1.2.1,(List.getD p.1.1 p.1.2.2.1.toNat k43).2.2.2.1.2.2.1,(List.getD p.1.1 p.1.2.2.1.toNat k43).2.2.2.2.1,(List.getD p.1.1 p.1.2.2.1.toNat k43).2.2.2.2.2.1,(List.getD p.1.1 p.1.2.2.1.toNat k43).2.2.2.2.2.2.1,(List.getD p.1.1 p.1.2.2.1.toNat k43).2.2.2.2.2.2.2.1,(List.getD p.1.1 p.1.2.2.1.toNat k43).2.2.2.2.2.2.2.2.1,()),()),p.2)) λr2=>(cond (!(decide (r2.1=(0:Int)))) (some (Sum.inr (Sum.inr ((p.1.2.2.1,r2.1,()),())))) (some (Sum.inl ((p.1.1,(),(zX (p.1.2.2.1+(1:Int))),()),r2.2))))) none) (some (Sum.inr (Sum.inl ((p.1.1,()),())))))
def L307_0 (p:T307_0):Option R307_0:=zP wc p
def F307 (p:S107×Unit):Option (S86×Unit):=(Option.bind (F320 ((),())) λr1=>(Option.bind (Option.bind (L307_0 ((p.1.1,(),(0:Int),()),(r1.2.2,()))) λp3=>(match p3 with | Sum.inl p4=>(some (Sum.inl p4)) | Sum.inr q4=>(some (Sum.inr q4)))) λp5=>(match p5 with | Sum.inl p6=>(some (((p6.1.1.length:Int),(0:Int),()),())) | Sum.inr q6=>(some q6))))
end Go.Fo
end
namespace Go.Fo
open Go Go.Ev
set_option maxRecDepth 100000
section
abbrev yO:Type:=Int×(UInt8×(List UInt8×Unit))
abbrev wI:Type:=List UInt8×Int×Int×List yO×Unit
abbrev Out:Type:=(Unit×Unit)⊕((Int×Unit)×Unit)
def chk1 (next:Int) (l:yO) (last:Int):Int⊕Out :=
 if l.1<=last\/next<=l.1 then .inr (.inr ((4,()),())) else if 32<=l.2.1.toNat then .inr (.inr ((2,()),())) else if 600<l.2.2.1.length then .inr (.inr ((6,()),())) else .inl l.1
def chk (next:Int) (ls:List yO):Out:=zd (chk1 next) (λ_=>.inl ((),())) 0 ls
def code:Out->Int
 | .inl _=>0
 | .inr q=>q.1.1
def y7 (b:wI):Int :=
 if b.2.1<1\/4294967295<b.2.1\/b.2.2.1<1\/4294967295<b.2.2.1 then 2 else if 32<b.2.2.2.1.length then 8 else code (chk b.2.2.1 b.2.2.2.1)
theorem L65_eq (nm:List UInt8) (v n:Int) (ls:List yO) (hl:ls.length<=32):L65_0 (((),(0:Int),ls,((ls.length:Nat):Int),(0:Int),()),((nm,v,n,ls,()),()))=some (chk n ls):=by
 have hF:=zK
 refine yL (f:=B65_0) (λb i=>(((),b,ls,((ls.length:Nat):Int),(i:Int),()),((nm,v,n,ls,()),()))) ls (chk1 n) _ (λb i a hi ha=>?_) (λb=>?_) (by omega)
 ·have e1:((0:Int),((0:UInt8),(([]:(List UInt8)),())))=((0,0,[],()):yO):=rfl
  simp only [B65_0,ym,yc,hi,zU,Bool.and_true,zG,zE,zr,ha,chk1,yN (show i<9223372036854775807 by omega)]
  by_cases h1:a.1<=b\/n<=a.1
  ·simp only [h1,↓reduceIte]
   rcases h1 with h1 | h1 <;> simp [h1]
  ·simp only [h1,↓reduceIte]
   rw [not_or] at h1
   by_cases h2:32<=a.2.1.toNat
   ·simp [h1,h2]
   ·by_cases h3:600<a.2.2.1.length
    ·have h3':(600:Int)<(a.2.2.1.length:Int):=by omega
     simp [h1,h2,h3,h3']
    ·have h3':¬ (600:Int)<(a.2.2.1.length:Int):=by omega
     simp [h1,h2,h3,h3']
 ·simp only [B65_0,Int.lt_irrefl,yp,zJ]
theorem F65_eq (b:wI):F65 ((b,()),())=some (y7 b,()):=by
 obtain ⟨nm,v,n,ls,u⟩:=b
 cases u
 simp only [F65,F81,y7,zE]
 by_cases h1:v<1\/4294967295<v\/n<1\/4294967295<n
 ·simp only [h1,↓reduceIte]
  by_cases h2:1<=v/\v<=4294967295
  ·have:¬ (1<=n/\n<=4294967295):=by omega
   simp [h2,this,<- Bool.decide_and]
  ·simp [h2,<- Bool.decide_and]
 ·have h2:1<=v/\v<=4294967295/\1<=n/\n<=4294967295:=by omega
  simp only [h1,↓reduceIte]
  by_cases h3:32<ls.length
  ·have h3':(32:Int)<(ls.length:Int):=by omega
   simp [h2,h3,h3']
  ·have h3':¬ (32:Int)<(ls.length:Int):=by omega
   simp only [h2,h3,h3',L65_eq nm v n ls (by omega),zU,yp,Bool.and_true,zu,yq,zG,zJ,zE,↓reduceIte]
   cases chk n ls <;> rfl
def size (ls:List yO):Int:=zd (λ(l:yO) n=>(.inl (zX (n+(l.2.2.1.length:Int))):Int⊕Int)) id 0 ls
theorem foldS_map {α β τ υ:Type} (g:τ->υ) {step:α->β->β⊕τ} {fin:β->τ}:∀ (ls:List α) (b:β),
  zd (λa b=>match step a b with | .inl c=>.inl c | .inr r=>.inr (g r)) (λb=>g (fin b)) b ls=g (zd step fin b ls)
 | [],_=>rfl
 | a::t,b=>by
  simp only [zd]
  cases step a b with
  | inl c=>exact foldS_map g t c
  | inr r=>rfl
theorem F66_eq (b:wI) (hl:b.2.2.2.1.length<=maxLen):F66 ((b,()),())=some (size b.2.2.2.1,()):=by
 obtain ⟨nm,v,n,ls,u⟩:=b
 have hF:maxLen<yn:=by unfold maxLen yn;omega
 have hm:maxLen=9223372036854775807:=rfl
 change ls.length<=maxLen at hl
 have h:L66_0 (((0:Int),ls,((ls.length:Nat):Int),(0:Int),()),())=some (zd (λ(l:yO) n=>(.inl (zX (n+(l.2.2.1.length:Int))):Int⊕((Int×Unit)×Unit))) (λn=>((n,()),())) 0 ls) :=
  yL (f:=B66_0) (λb i=>((b,ls,((ls.length:Nat):Int),(i:Int),()),())) ls _ _ (λb i a hi ha=>by
   simp only [B66_0,ym,yc,hi,zU,Bool.and_true,zG,zE,zr,ha,yN (show i<9223372036854775807 by omega)])
   (λb=>by simp only [B66_0,Int.lt_irrefl,yp,zJ]) (by omega)
 have e:=foldS_map (λn:Int=>((n,()),())) (step:=λ(l:yO) n=>(.inl (zX (n+(l.2.2.1.length:Int))):Int⊕Int)) (fin:=id) ls 0
 simp only [id_eq] at e
 rw [e] at h
 simp only [F66,h,zE,size]
end
section
theorem zT {n k:Nat} (h:n*k<=140737488355328):zC n k=true:=zW h
theorem F35_eq (l:List UInt8) (h:l.length<=600):F35 ((l,()),())=some ((),(l,())):=by
 have hb:zC (0+l.length) 1=true:=zT (by omega)
 cases l with
 | nil=>simp only [F35,List.isEmpty_nil,zG,hb,List.append_nil,zR]
 | cons a t=>simp only [F35,List.isEmpty_cons,zJ,hb,zG,List.nil_append]
theorem F44_eq (l:List yO) (h:l.length<=32):F44 ((l,()),())=some ((),(l,())):=by
 have hb:zC (([]:List yO).length+l.length) 40=true:=zT (by simp only [List.length_nil];omega)
 cases l with
 | nil=>simp only [F44,List.isEmpty_nil,zG,hb,List.append_nil,zR]
 | cons a t=>simp only [F44,List.isEmpty_cons,zJ,hb,zG,List.nil_append]
theorem set_same {α:Type}:∀ (l:List α) (i:Nat) (a:α),(∀ d,l.getD i d=a)->l.set i a=l
 | [],_,_,_=>rfl
 | x::t,0,a,h=>by rw [<- h a];rfl
 | x::t,i+1,a,h=>by
  rw [List.set_cons_succ,set_same t i a (λd=>by simpa using h d)]
theorem wE {α τ:Type} (r:τ):∀ (l:List α),zd (λ_ (_:Unit)=>(.inl ():Unit⊕τ)) (λ_=>r) () l=r
 | []=>rfl
 | _::t=>wE r t
theorem L119_eq (nm:List UInt8) (v n:Int) (ls ks:List yO) (hl:ls.length<=32) (hb:∀ l∈ls,l.2.2.1.length<=600) :
  L119_0 (((),(),((ls.length:Nat):Int),(0:Int),()),((nm,v,n,(),()),((),(),(),(),()),ls,ks,()))=some (((),(),()),((nm,v,n,(),()),((),(),(),(),()),ls,ks,())):=by
 have hF:=zK
 have h:=yL (f:=B119_0) (λ(_:Unit) i=>(((),(),((ls.length:Nat):Int),(i:Int),()),((nm,v,n,(),()),((),(),(),(),()),ls,ks,()))) ls (λ_ _=>.inl ())
  (λ_=>(((),(),()),((nm,v,n,(),()),((),(),(),(),()),ls,ks,()))) (b:=()) (λb i a hi ha=>?_) (λb=>?_) (by omega)
 ·rw [wE] at h
  exact h
 ·have hm:a∈ls:=by
   rw [<- ha (0,0,[],()),xk,List.getElem?_eq_getElem hi]
   exact List.getElem_mem hi
  simp only [B119_0,ym,yc,hi,zU,Bool.and_true,zG,zE,zr,ha,F35_eq _ (hb a hm),yN (show i<9223372036854775807 by omega)]
  rw [set_same ls i (a.1,a.2.1,a.2.2.1,()) (λd=>by rw [ha])]
 ·simp only [B119_0,Int.lt_irrefl,yp,zJ]
theorem F119_eq (b:wI) (hl:b.2.2.2.1.length<=32) (hb:∀ l∈b.2.2.2.1,l.2.2.1.length<=600):F119 ((b,()),())=some ((b.1,b.2.1,b.2.2.1,(),()),(b.2.2.2.1,())):=by
 obtain ⟨nm,v,n,ls,u⟩:=b
 cases u
 simp only [F119,F44_eq ls hl,zE,L119_eq nm v n ls [] hl hb]
theorem chk_zero {n:Int}:∀ {ls:List yO} {last:Int},code (zd (chk1 n) (λ_=>.inl ((),())) last ls)=0->∀ l∈ls,last<l.1/\l.1<n/\l.2.1.toNat<32/\l.2.2.1.length<=600
 | [],_,_,_,hm=>absurd hm (List.not_mem_nil)
 | a::t,last,h,l,hm=>by
  simp only [zd,chk1] at h
  by_cases h1:a.1<=last\/n<=a.1
  ·simp [h1,code] at h
  ·by_cases h2:32<=a.2.1.toNat
   ·simp [h1,h2,code] at h
   ·by_cases h3:600<a.2.2.1.length
    ·simp [h1,h2,h3,code] at h
    ·simp only [h1,h2,h3,↓reduceIte] at h
     rcases List.mem_cons.mp hm with rfl | hm
     ·exact ⟨by omega,by omega,by omega,by omega⟩
     ·have:=chk_zero h l hm
      exact ⟨by omega,this.2.1,this.2.2.1,this.2.2.2⟩
theorem chk_rise {n:Int}:∀ {ls:List yO} {last:Int},code (zd (chk1 n) (λ_=>.inl ((),())) last ls)=0->ls.Pairwise (λa b=>a.1<b.1)
 | [],_,_=>List.Pairwise.nil
 | a::t,last,h=>by
  simp only [zd,chk1] at h
  by_cases h1:a.1<=last\/n<=a.1
  ·simp [h1,code] at h
  ·by_cases h2:32<=a.2.1.toNat
   ·simp [h1,h2,code] at h
   ·by_cases h3:600<a.2.2.1.length
    ·simp [h1,h2,h3,code] at h
    ·simp only [h1,h2,h3,↓reduceIte] at h
     exact List.Pairwise.cons (λl hl=>(chk_zero h l hl).1) (chk_rise h)
structure Right (b:wI):Prop where
 valid:1<=b.2.1/\b.2.1<=4294967295
 next:1<=b.2.2.1/\b.2.2.1<=4294967295
 few:b.2.2.2.1.length<=32
 each:∀ l∈b.2.2.2.1,0<l.1/\l.1<b.2.2.1/\l.2.1.toNat<32/\l.2.2.1.length<=600
 rise:b.2.2.2.1.Pairwise (λa b=>a.1<b.1)
theorem chk_of {n:Int}:∀ {ls:List yO} {last:Int},ls.Pairwise (λa b=>a.1<b.1)->(∀ l∈ls,last<l.1/\l.1<n/\l.2.1.toNat<32/\l.2.2.1.length<=600)->code (zd (chk1 n) (λ_=>.inl ((),())) last ls)=0
 | [],_,_,_=>rfl
 | a::t,last,hp,h=>by
  have ha:=h a (List.mem_cons_self ..)
  obtain ⟨hp1,hp2⟩:=List.pairwise_cons.mp hp
  have h1:¬ (a.1<=last\/n<=a.1):=by omega
  have h2:¬ 32<=a.2.1.toNat:=by omega
  have h3:¬ 600<a.2.2.1.length:=by omega
  simp only [zd,chk1,h1,h2,h3,↓reduceIte]
  exact chk_of hp2 (λl hl=>⟨hp1 l hl,(h l (List.mem_cons_of_mem _ hl)).2⟩)
theorem check_zero {b:wI}:y7 b=0<->Right b:=by
 constructor
 ·intro h
  unfold y7 at h
  by_cases h1:b.2.1<1\/4294967295<b.2.1\/b.2.2.1<1\/4294967295<b.2.2.1
  ·rw [if_pos h1] at h;cases h
  ·rw [if_neg h1] at h
   by_cases h2:32<b.2.2.2.1.length
   ·rw [if_pos h2] at h;cases h
   ·rw [if_neg h2] at h
    exact ⟨by omega,by omega,by omega,chk_zero h,chk_rise h⟩
 ·intro h
  have:=h.valid
  have:=h.next
  have:=h.few
  unfold y7
  rw [if_neg (by omega),if_neg (by omega)]
  exact chk_of h.rise h.each
def yY:wI:=([],0,0,[],())
def add (b:wI) (f:UInt8) (p:List UInt8):wI×Int×Int×Unit :=
 if y7 b≠0 then (yY,0,y7 b,())
 else if 32<=f.toNat then (yY,0,2,())
 else if 600<p.length then (yY,0,6,())
 else if b.2.2.2.1.length=32\/b.2.2.1=4294967295 then (yY,0,8,())
 else ((b.1,b.2.1,b.2.2.1+1,b.2.2.2.1++[(b.2.2.1,f,p,())],()),b.2.2.1,0,())
theorem F98_eq (b:wI) (f:UInt8) (p:List UInt8):F98 ((b,f,p,()),())=some (add b f p,()):=by
 have e16:=F65_eq b
 have e24:=F119_eq b
 have ez:=check_zero (b:=b)
 obtain ⟨nm,v,n,ls,u⟩:=b
 cases u
 unfold add
 simp only [F98,e16,zE]
 generalize hc:y7 (nm,v,n,ls,())=c at *
 by_cases h0:c=0
 ·have R:=ez.mp h0
  have hr:=R.few
  have hn:=R.next
  simp only at hr hn
  simp only [h0,ne_eq,not_true_eq_false,↓reduceIte,zU,zu,zJ]
  by_cases h1:32<=f.toNat
  ·simp [h1,yY]
  ·by_cases h2:600<p.length
   ·have h2':(600:Int)<(p.length:Int):=by omega
    simp [h1,h2,h2',yY]
   ·have h2':¬ (600:Int)<(p.length:Int):=by omega
    by_cases h3:ls.length=32\/n=4294967295
    ·have h3':(decide (((ls.length:Nat):Int)=32)||decide (n=4294967295))=true:=by
      simp only [Bool.or_eq_true,xX];omega
     simp [h1,h2,h2',h3,h3',yY]
    ·have h3':(decide (((ls.length:Nat):Int)=32)||decide (n=4294967295))=false:=by
      simp only [Bool.or_eq_false_iff,decide_eq_false_iff_not];omega
     have hb:zC (ls.length+1) 40=true:=zT (by omega)
     simp only [show UInt8.toNat 32=32 from rfl,h1,h2,h2',h3,h3',yp,zU,zJ,zE,zu,↓reduceIte,e24 hr (λl hl=>(R.each l hl).2.2.2),F35_eq p (by omega),List.length_cons,List.length_nil,Nat.zero_add,hb,zG,
      zO (n:=n+1) (by omega) (by omega)]
 ·simp [h0,yY]
end
section
theorem add_len (b:wI) (f:UInt8) (p:List UInt8):(add b f p).1.2.2.2.1.length<=32:=by
 unfold add
 by_cases h0:y7 b=0
 ·have R:=check_zero.mp h0
  have:=R.few
  rw [if_neg (not_not_intro h0)]
  split
  ·exact Nat.zero_le _
  ·split
   ·exact Nat.zero_le _
   ·split
    ·exact Nat.zero_le _
    ·rename_i h
     simp only [yU,List.length_cons,List.length_nil]
     omega
 ·rw [if_pos h0]
  exact Nat.zero_le _
end
section
def cmp3 (a b:Int):Int:=if a<b then -1 else if b<a then 1 else 0
theorem F147_eq (a:Int):F147 ((a,()),())=some (false,()):=by
 simp only [F147,zU,zu]
theorem F138_eq (_u _f:Int×Unit) (l:yO) (uid:Int):F138 (((l.1,l.2.1,l.2.2.1,()),uid,()),())=some (cmp3 l.1 uid,()):=by
 simp only [F138,F139,F147_eq,zE,zJ,cmp3]
 by_cases h1:l.1<uid
 ·simp [h1]
 ·by_cases h2:uid<l.1
  ·simp [h1,h2]
  ·simp [h1,h2]
theorem mid {lo hi:Nat} (h:lo+hi<1000):zX (Int.fdiv (IntKind.wrap .u64 (zX ((lo:Int)+(hi:Int)))) (2^1))=(((lo+hi)/2:Nat):Int):=by
 rw [zO (n:=(lo:Int)+hi) (by omega) (by omega)]
 have e:IntKind.wrap .u64 ((lo:Int)+(hi:Int))=((lo+hi:Nat):Int):=by
  unfold IntKind.wrap
  simp only [IntKind.bits,IntKind.signed]
  simp
  omega
 rw [e]
 have e2:Int.fdiv ((lo+hi:Nat):Int) (2^1)=(((lo+hi)/2:Nat):Int):=by
  rw [Int.fdiv_eq_ediv_of_nonneg _ (by decide)]
  omega
 rw [e2]
 exact zO (by omega) (by omega)
theorem getD_lt {ls:List yO} (h:ls.Pairwise (λa b=>a.1<b.1)) {i j:Nat} (hij:i<j) (hj:j<ls.length) (d:yO):(ls.getD i d).1<(ls.getD j d).1:=by
 have:=List.pairwise_iff_getElem.mp h i j (by omega) hj hij
 rw [xk,xk,List.getElem?_eq_getElem hj,List.getElem?_eq_getElem (show i<ls.length by omega)]
 exact this
abbrev u7:yO:=(0,0,[],())
theorem L137_eq (ls:List yO) (uid:Int) (hl:ls.length<=32) (hr:ls.Pairwise (λa b=>a.1<b.1)) :
  ∃ lo:Nat,sB ((ls,uid,(),((ls.length:Nat):Int),(0:Int),((ls.length:Nat):Int),()),())=some ((ls,uid,(),((ls.length:Nat):Int),(lo:Int),()),())/\lo<=ls.length/\(∀ k,k<lo->(ls.getD k u7).1<uid)/\(∀ k,lo<=k->k<ls.length->uid<=(ls.getD k u7).1):=by
 have hF:=zK
 have h:=yE (f:=wz) (p:=((ls,uid,(),((ls.length:Nat):Int),(0:Int),((ls.length:Nat):Int),()),()))
  (λp=>∃ lo hi:Nat,p=((ls,uid,(),((ls.length:Nat):Int),(lo:Int),(hi:Int),()),())/\lo<=hi/\hi<=ls.length/\(∀ k,k<lo->(ls.getD k u7).1<uid)/\(∀ k,hi<=k->k<ls.length->uid<=(ls.getD k u7).1))
  (λp=>(p.1.2.2.2.2.2.1-p.1.2.2.2.2.1).toNat)
  (λr=>∃ lo:Nat,r=((ls,uid,(),((ls.length:Nat):Int),(lo:Int),()),())/\lo<=ls.length/\(∀ k,k<lo->(ls.getD k u7).1<uid)/\(∀ k,lo<=k->k<ls.length->uid<=(ls.getD k u7).1))
  (λp hp=>by
   obtain ⟨lo,hi,rfl,h1,h2,h3,h4⟩:=hp
   by_cases hlt:lo<hi
   ·left
    have hm1:lo<=(lo+hi)/2:=by omega
    have hm2:(lo+hi)/2<hi:=by omega
    have hm3:(lo+hi)/2<ls.length:=by omega
    have hg:=F138_eq (0,()) (0,()) (ls.getD ((lo+hi)/2) u7) uid
    have hh:wz ((ls,uid,(),((ls.length:Nat):Int),(lo:Int),(hi:Int),()),())=some (.inl (if (ls.getD ((lo+hi)/2) u7).1<uid then ((ls,uid,(),((ls.length:Nat):Int),(((lo+hi)/2+1:Nat):Int),(hi:Int),()),()) else ((ls,uid,(),((ls.length:Nat):Int),(lo:Int),(((lo+hi)/2:Nat):Int),()),()))):=by
     simp only [wz,ym,yc,hlt,zU,zG,zE,mid (show lo+hi<1000 by omega),hm3,Bool.and_true,zr]
     rw [hg]
     simp only [zE,cmp3]
     by_cases hc:(ls.getD ((lo+hi)/2) u7).1<uid
     ·simp only [hc,↓reduceIte,yN (show (lo+hi)/2<9223372036854775807 by omega)]
      rfl
     ·simp only [hc,↓reduceIte]
      by_cases hc2:uid<(ls.getD ((lo+hi)/2) u7).1
      ·simp only [hc2,↓reduceIte];rfl
      ·simp only [hc2,↓reduceIte];rfl
    by_cases hc:(ls.getD ((lo+hi)/2) u7).1<uid
    ·rw [if_pos hc] at hh
     refine ⟨_,hh,⟨_,hi,rfl,by omega,h2,λk hk=>?_,h4⟩,by simp only;omega⟩
     rcases Nat.lt_or_ge k ((lo+hi)/2) with hk2 | hk2
     ·have:=getD_lt hr hk2 hm3 u7
      omega
     ·obtain rfl:k=(lo+hi)/2:=by omega
      exact hc
    ·rw [if_neg hc] at hh
     refine ⟨_,hh,⟨lo,_,rfl,hm1,by omega,h3,λk hk hk3=>?_⟩,by simp only;omega⟩
     rcases Nat.lt_or_ge ((lo+hi)/2) k with hk2 | hk2
     ·have:=getD_lt hr hk2 hk3 u7
      omega
     ·obtain rfl:k=(lo+hi)/2:=by omega
      omega
   ·right
    obtain rfl:lo=hi:=by omega
    refine ⟨((ls,uid,(),((ls.length:Nat):Int),(lo:Int),()),()),?_,lo,rfl,h2,h3,h4⟩
    simp only [wz,Int.lt_irrefl,yp,zJ])
  ⟨0,ls.length,rfl,Nat.zero_le _,Nat.le_refl _,λk h=>absurd h (Nat.not_lt_zero _),λk h h'=>by omega⟩ (by simp only;omega)
 obtain ⟨r,h1,lo,rfl,h2⟩:=h
 exact ⟨lo,h1,h2⟩
def has (ls:List yO) (uid:Int):Bool:=ls.any λl=>decide (l.1=uid)
theorem F120_eq (b:wI) (uid:Int) (hl:b.2.2.2.1.length<=32) (hr:b.2.2.2.1.Pairwise (λa b=>a.1<b.1)) :
  ∃ i:Nat,F120 ((b,uid,()),())=some (((i:Int),has b.2.2.2.1 uid,()),())/\(has b.2.2.2.1 uid=true->i<b.2.2.2.1.length/\(b.2.2.2.1.getD i u7).1=uid):=by
 obtain ⟨nm,v,n,ls,u⟩:=b
 obtain ⟨lo,h1,h2,h3,h4⟩:=L137_eq ls uid hl hr
 change ls.length<=32 at hl
 change ls.Pairwise (λa b=>a.1<b.1) at hr
 refine ⟨lo,?_,?_⟩
 ·simp only [F120,F137c138,h1,zE,ym,yc,Bool.true_and,zr]
  by_cases hlo:lo<ls.length
  ·have hg:=F138_eq (0,()) (0,()) (ls.getD lo u7) uid
   simp only [hlo,zU,Bool.true_or,zG]
   rw [hg]
   simp only [zE]
   have e:decide (cmp3 (ls.getD lo u7).1 uid=0)=has ls uid:=by
    rw [Bool.eq_iff_iff,xX]
    unfold has
    rw [List.any_eq_true]
    constructor
    ·intro hc
     refine ⟨ls.getD lo u7,?_,?_⟩
     ·rw [xk,List.getElem?_eq_getElem hlo]
      exact List.getElem_mem hlo
     ·have:=h4 lo (Nat.le_refl _) hlo
      unfold cmp3 at hc
      rw [xX]
      split at hc
      ·omega
      ·split at hc
       ·omega
       ·omega
    ·rintro ⟨l,hm,he⟩
     rw [xX] at he
     obtain ⟨k,hk,rfl⟩:=List.getElem_of_mem hm
     have e1:(ls.getD k u7).1=uid:=by
      rw [xk,List.getElem?_eq_getElem hk];exact he
     rcases Nat.lt_trichotomy k lo with h | h | h
     ·have:=h3 k h;omega
     ·subst h
      unfold cmp3
      rw [if_neg (by omega),if_neg (by omega)]
     ·have:=getD_lt hr h hk u7
      have:=h4 lo (Nat.le_refl _) hlo
      omega
   rw [e]
  ·have e:has ls uid=false:=by
    unfold has
    rw [List.any_eq_false]
    intro l hm
    rw [xX]
    obtain ⟨k,hk,rfl⟩:=List.getElem_of_mem hm
    have e1:(ls.getD k u7).1=(ls[k]).1:=by
     rw [xk,List.getElem?_eq_getElem hk];rfl
    have:=h3 k (by omega)
    omega
   simp only [hlo,yp,yq,Bool.or_true,zG,zJ,e,zE]
 ·intro hh
  change has ls uid=true at hh
  unfold has at hh
  rw [List.any_eq_true] at hh
  obtain ⟨l,hm,he⟩:=hh
  rw [xX] at he
  obtain ⟨k,hk,rfl⟩:=List.getElem_of_mem hm
  have e1:(ls.getD k u7).1=uid:=by
   rw [xk,List.getElem?_eq_getElem hk];exact he
  change lo<ls.length/\(ls.getD lo u7).1=uid
  rcases Nat.lt_trichotomy k lo with h | h | h
  ·have:=h3 k h;omega
  ·subst h
   exact ⟨hk,e1⟩
  ·have:=getD_lt hr h hk u7
   have:=h4 lo (Nat.le_refl _) (by omega)
   omega
end
section
def keep (uid:Int) (l:yO):Bool:=!decide (l.1=uid)
theorem F122_eq (l:yO) (uid:Int):F122 (((l.1,l.2.1,l.2.2.1,()),(),()),((uid,()),()))=some (decide (l.1=uid),((uid,()),())):=rfl
abbrev R48:Type:=(((Unit×Unit)×Unit)×((Int×Unit)×Unit))⊕(((Unit×Unit)×Int×Unit)×((Int×Unit)×Unit))
def stp48 (uid:Int) (a:yO) (b:Nat):Nat⊕R48:=if a.1=uid then .inr (.inr ((((),()),(b:Int),()),((uid,()),()))) else .inl (b+1)
theorem L140_eq (ls:List yO) (uid:Int) (hl:ls.length<=32):sA ((ls,((),()),((ls.length:Nat):Int),(0:Int),()),((uid,()),()))=some (zd (stp48 uid) (λ_=>.inl ((((),()),()),((uid,()),()))) 0 ls):=by
 have hF:=zK
 refine zs (f:=uO) (λ(_:Nat) i=>((ls,((),()),((ls.length:Nat):Int),(i:Int),()),((uid,()),()))) ls (stp48 uid) _ (λb i=>b=i)
  (λb i a hI hi ha=>?_) (λb _=>?_) (by omega) rfl
 ·subst hI
  have hg:=F122_eq a uid
  simp only [uO,ym,yc,hi,zU,Bool.and_true,zG,zr,ha]
  rw [hg]
  simp only [zE,stp48]
  by_cases h:a.1=uid
  ·simp only [h,↓reduceIte,zU,zG]
   exact .inr ⟨_,rfl,rfl⟩
  ·simp only [h,↓reduceIte,yp,zJ,yN (show b<9223372036854775807 by omega)]
   exact .inl ⟨_,rfl,rfl,trivial⟩
 ·simp only [uO,Int.lt_irrefl,yp,zJ]
theorem fold48 (uid:Int) (z:R48):∀ (ls:List yO) (b:Nat),has ls uid=true ->
  ∃ k,zd (stp48 uid) (λ_=>z) b ls=.inr ((((),()),((b+k:Nat):Int),()),((uid,()),()))/\k<ls.length/\(ls.take (k+1)).filter (keep uid)=ls.take k
 | [],_,h=>by cases h
 | a::t,b,h=>by
  by_cases ha:a.1=uid
  ·refine ⟨0,?_,?_,?_⟩
   ·simp only [zd,stp48,ha,↓reduceIte]
    rfl
   ·simp
   ·simp [keep,ha]
  ·have ht:has t uid=true:=by
    simpa [has,ha] using h
   obtain ⟨k,h1,h2,h3⟩:=fold48 uid z t (b+1) ht
   refine ⟨k+1,?_,?_,?_⟩
   ·simp only [zd,stp48,ha,↓reduceIte]
    rw [show b+(k+1)=b+1+k by omega]
    exact h1
   ·simp only [List.length_cons];omega
   ·rw [List.take_succ_cons,List.filter_cons_of_pos (by simp [keep,ha]),h3,List.take_succ_cons]
theorem getD_of_drop {α:Type} {M ls:List α} {j:Nat} (h:M.drop j=ls.drop j) (d:α):M.getD j d=ls.getD j d:=by
 have e:(M.drop j)[0]?=(ls.drop j)[0]?:=by rw [h]
 rw [List.getElem?_drop,List.getElem?_drop,Nat.add_zero] at e
 rw [xk,xk,e]
theorem L121_eq (ls:List yO) (uid:Int) (hl:ls.length<=32) (k:Nat) (hk:k<ls.length) (hf:(ls.take (k+1)).filter (keep uid)=ls.take k) :
  ∃ (i:Nat) (M:List yO),sC (((),((),()),(k:Int),((k+1:Nat):Int),()),(ls,(uid,()),()))=some (((),((),()),(i:Int),()),(M,(uid,()),()))/\i<=M.length/\M.length=ls.length/\M.take i=ls.filter (keep uid):=by
 have hF:=zK
 have h:=yE (f:=w4) (p:=(((),((),()),(k:Int),((k+1:Nat):Int),()),(ls,(uid,()),())))
  (λp=>∃ (i j:Nat) (M:List yO),p=(((),((),()),(i:Int),(j:Int),()),(M,(uid,()),()))/\i<j/\j<=ls.length/\M.length=ls.length/\M.take i=(ls.take j).filter (keep uid)/\M.drop j=ls.drop j)
  (λp=>((ls.length:Int)-p.1.2.2.2.1).toNat)
  (λr=>∃ (i:Nat) (M:List yO),r=(((),((),()),(i:Int),()),(M,(uid,()),()))/\i<=M.length/\M.length=ls.length/\M.take i=ls.filter (keep uid))
  (λp hp=>by
   obtain ⟨i,j,M,rfl,h1,h2,h3,h4,h5⟩:=hp
   by_cases hj:j<ls.length
   ·left
    have hjM:j<M.length:=by omega
    have hiM:i<M.length:=by omega
    have hx:=getD_of_drop h5 u7
    have hxe:ls.getD j u7=ls[j]:=by rw [xk,List.getElem?_eq_getElem hj];rfl
    have ht:(ls.take (j+1)).filter (keep uid)=(ls.take j).filter (keep uid)++[ls.getD j u7].filter (keep uid):=by
     rw [List.take_succ_eq_append_getElem hj,List.filter_append,hxe]
    have hd:M.drop (j+1)=ls.drop (j+1):=by
     rw [<- List.drop_drop,<- List.drop_drop,h5]
    have hg:=F122_eq (ls.getD j u7) uid
    by_cases hc:(ls.getD j u7).1=uid
    ·refine ⟨_,?_,⟨i,j+1,M,rfl,by omega,by omega,h3,?_,hd⟩,by simp only;omega⟩
     ·simp only [w4,ym,yc,hjM,zU,Bool.and_true,zG,zE,zr,hx]
      rw [hg]
      simp only [hc,zU,zu,zJ,zE,yN (show j<9223372036854775807 by omega)]
     ·rw [ht,h4];simp only [List.filter_cons,keep,hc,zU,zu,Bool.false_eq_true,↓reduceIte,List.filter_nil,List.append_nil]
    ·refine ⟨_,?_,⟨i+1,j+1,M.set i (ls.getD j u7),rfl,by omega,by omega,by rw [List.length_set];exact h3,?_,?_⟩,by simp only;omega⟩
     ·simp only [w4,ym,yc,hjM,zU,Bool.and_true,zG,zE,zr,hx]
      rw [hg]
      simp only [hc,yp,yq,zG,zE,yc,ym,hiM,zU,Bool.and_true,zr,yN (show j<9223372036854775807 by omega),yN (show i<9223372036854775807 by omega)]
     ·have hiS:i<(M.set i (ls.getD j u7)).length:=by rw [List.length_set];exact hiM
      rw [ht,<- h4,List.take_succ_eq_append_getElem hiS,List.take_set_of_le (Nat.le_refl _),List.getElem_set_self]
      simp only [List.filter_cons,keep,hc,yp,yq,↓reduceIte,List.filter_nil]
     ·rw [List.drop_set_of_lt (by omega)];exact hd
   ·right
    obtain rfl:j=ls.length:=by omega
    refine ⟨(((),((),()),(i:Int),()),(M,(uid,()),())),?_,i,M,rfl,by omega,h3,?_⟩
    ·simp only [w4,h3,Int.lt_irrefl,yp,zJ]
    ·rw [h4,List.take_length])
  ⟨k,k+1,ls,rfl,by omega,by omega,rfl,hf.symm,rfl⟩ (by simp only;omega)
 obtain ⟨r,h1,i,M,rfl,h2⟩:=h
 exact ⟨i,M,h1,h2⟩
theorem F121_eq (ls:List yO) (uid:Int) (hl:ls.length<=32) (hh:has ls uid=true) :
  F121c122 (((),((),()),()),(ls,(uid,()),()))=some (ls.filter (keep uid),((uid,()),())):=by
 obtain ⟨k,h1,h2,h3⟩:=fold48 uid (.inl ((((),()),()),((uid,()),()))) ls 0 hh
 obtain ⟨i,M,h4,h5,h6,h7⟩:=L121_eq ls uid hl k h2 h3
 rw [Nat.zero_add] at h1
 have e48:F140c122 ((ls,((),()),()),((uid,()),()))=some ((k:Int),((uid,()),())):=by
  simp only [F140c122,L140_eq ls uid hl,h1,zE]
 have hk:¬ ((k:Int)=-1):=by omega
 have hi:(i:Int)<=(M.length:Int):=by omega
 have hlt:(List.take i M).length=i:=by rw [y4];omega
 have hi2:(i:Int)<=((List.take i M++List.replicate (M.length-i) ((0:Int),((0:UInt8),(([]:(List UInt8)),())))++List.drop (i+(M.length-i)) M).length:Int):=by
  simp only [yU,hlt,List.length_replicate];omega
 simp only [F121c122,e48,zE,hk,yp,zJ,yN (show k<9223372036854775807 by omega),h4,yc,hi,zU,Bool.and_true,Int.le_refl,zG,zr,hi2]
 rw [lAs,List.take_left' hlt,h7]
def cut (b:wI) (uid:Int):wI×Int×Unit :=
 if y7 b≠0 then (yY,y7 b,())
 else if has b.2.2.2.1 uid then ((b.1,b.2.1,b.2.2.1,b.2.2.2.1.filter (keep uid),()),0,())
 else (yY,9,())
theorem F100_eq (b:wI) (uid:Int):F100 ((b,uid,()),())=some (cut b uid,()):=by
 have e16:=F65_eq b
 have e24:=F119_eq b
 have e34:=F120_eq b uid
 have ez:=check_zero (b:=b)
 obtain ⟨nm,v,n,ls,u⟩:=b
 cases u
 unfold cut
 simp only [F100,e16,zE]
 generalize hc:y7 (nm,v,n,ls,())=c at *
 by_cases h0:c=0
 ·have R:=ez.mp h0
  obtain ⟨i,h1,h2⟩:=e34 R.few R.rise
  simp only at h1 h2
  simp only [h0,ne_eq,not_true_eq_false,↓reduceIte,zU,zu,zJ,h1,zE]
  cases hh:has ls uid
  ·simp [yY]
  ·simp only [zu,zJ,e24 R.few (λl hl=>(R.each l hl).2.2.2),zE,F121_eq ls uid R.few hh,↓reduceIte]
 ·simp [h0,yY]
def lay (how:Int) (was f:UInt8):UInt8:=if how=0 then f else if how=1 then was ||| f else was &&& ~~~f
def stpB (how:Int) (was f:UInt8) (bit is:UInt8):UInt8 :=
 if (decide (how=0)&&decide (f/bit % 2=1)||decide (how=1)&&(decide (was/bit % 2=1)||decide (f/bit % 2=1))||decide (how=2)&&decide (was/bit % 2=1)&&!decide (f/bit % 2=1)) then is+bit else is
def bits (how:Int) (was f:UInt8):UInt8:=stpB how was f 16 (stpB how was f 8 (stpB how was f 4 (stpB how was f 2 (stpB how was f 1 0))))
def relay (uid how:Int) (f:UInt8) (a:yO):yO:=if a.1=uid then (a.1,lay how a.2.1 f,a.2.2.1,()) else a
def flag (b:wI) (uid how:Int) (f:UInt8):wI×Int×Unit :=
 if y7 b≠0 then (yY,y7 b,())
 else if how<0\/2<how\/32<=f.toNat then (yY,2,())
 else if has b.2.2.2.1 uid then ((b.1,b.2.1,b.2.2.1,b.2.2.2.1.map (relay uid how f),()),0,())
 else (yY,9,())
theorem rise_inj {ls:List yO} (h:ls.Pairwise (λa b=>a.1<b.1)) {i j:Nat} (hi:i<ls.length) (hj:j<ls.length) (he:ls[i].1=ls[j].1):i=j:=by
 rcases Nat.lt_trichotomy i j with h' | h' | h'
 ·have:=List.pairwise_iff_getElem.mp h i j hi hj h';omega
 ·exact h'
 ·have:=List.pairwise_iff_getElem.mp h j i hj hi h';omega
theorem set_map {ls:List yO} (h:ls.Pairwise (λa b=>a.1<b.1)) {uid:Int} {i:Nat} (hi:i<ls.length) (he:(ls.getD i u7).1=uid) (g:yO->yO) :
  ls.set i (g (ls.getD i u7))=ls.map λa=>if a.1=uid then g a else a:=by
 have e:ls.getD i u7=ls[i]:=by rw [xk,List.getElem?_eq_getElem hi];rfl
 rw [e] at he ⊢
 refine List.ext_getElem (by simp) λk hk1 hk2=>?_
 rw [List.length_set] at hk1
 rw [List.getElem_set,List.getElem_map]
 by_cases hk:i=k
 ·subst hk
  simp [he]
 ·have:¬ (ls[k].1=uid):=λhq=>hk (rise_inj h hi hk1 (by rw [he,hq]))
  simp [hk,this]
theorem F99_eq (b:wI) (uid how:Int) (f:UInt8):F99 ((b,uid,how,f,()),())=some (flag b uid how f,()):=by
 have e16:=F65_eq b
 have e24:=F119_eq b
 have e34:=F120_eq b uid
 have ez:=check_zero (b:=b)
 obtain ⟨nm,v,n,ls,u⟩:=b
 cases u
 unfold flag
 simp only [F99,e16,zE]
 generalize hc:y7 (nm,v,n,ls,())=c at *
 by_cases h0:c=0
 ·have R:=ez.mp h0
  obtain ⟨i,h1,h2⟩:=e34 R.few R.rise
  simp only at h1 h2
  simp only [h0,ne_eq,not_true_eq_false,↓reduceIte,zU,zu,zJ,h1,zE]
  by_cases hb:how<0\/2<how\/32<=f.toNat
  ·have e:(decide (how<0)||decide (2<how)||decide (UInt8.toNat 32<=f.toNat))=true:=by
    simp only [Bool.or_eq_true,xX,show UInt8.toNat 32=32 from rfl];omega
   simp only [e,zG,hb,↓reduceIte,yY]
  ·have e:(decide (how<0)||decide (2<how)||decide (UInt8.toNat 32<=f.toNat))=false:=by
    simp only [Bool.or_eq_false_iff,decide_eq_false_iff_not,show UInt8.toNat 32=32 from rfl];omega
   simp only [e,zJ,hb,↓reduceIte]
   cases hh:has ls uid
   ·simp [yY]
   ·obtain ⟨hi,he⟩:=h2 hh
    have s:=set_map R.rise hi he (λa=>(a.1,lay how a.2.1 f,a.2.2.1,()))
    have hm:(λa:yO=>if a.1=uid then (a.1,lay how a.2.1 f,a.2.2.1,()) else a)=relay uid how f:=rfl
    rw [hm] at s
    simp only at s
    rw [<- s]
    simp only [zu,zJ,e24 R.few (λl hl=>(R.each l hl).2.2.2),zE,yc,ym,hi,zU,Bool.and_true,zG,zr,↓reduceIte]
    obtain rfl | rfl | rfl:how=0\/how=1\/how=2:=by omega
    ·rfl
    ·rfl
    ·rfl
 ·simp [h0,yY]
theorem flag_len (b:wI) (uid how:Int) (f:UInt8):(flag b uid how f).1.2.2.2.1.length<=32:=by
 unfold flag
 split
 ·exact Nat.zero_le _
 ·rename_i h0
  have R:=check_zero.mp (Classical.not_not.mp h0)
  have:=R.few
  split
  ·exact Nat.zero_le _
  ·split
   ·simp only [List.length_map];exact this
   ·exact Nat.zero_le _
theorem cut_len (b:wI) (uid:Int):(cut b uid).1.2.2.2.1.length<=32:=by
 unfold cut
 split
 ·exact Nat.zero_le _
 ·rename_i h0
  have R:=check_zero.mp (Classical.not_not.mp h0)
  have:=R.few
  split
  ·exact Nat.le_trans (List.length_filter_le _ _) this
  ·exact Nat.zero_le _
end
section
def laid (b:wI) (uid how:Int) (f:UInt8):wI:=(b.1,b.2.1,b.2.2.1,b.2.2.2.1.map (relay uid how f),())
theorem flag_good {b:wI} {uid how:Int} {f:UInt8} (h:(flag b uid how f).2.1=0):Right b/\0<=how/\how<=2/\f.toNat<32/\has b.2.2.2.1 uid=true/\flag b uid how f=(laid b uid how f,0,()):=by
 unfold flag at *
 by_cases h1:y7 b≠0
 ·rw [if_pos h1] at h
  exact absurd h h1
 ·rw [if_neg h1] at h ⊢
  by_cases h2:how<0\/2<how\/32<=f.toNat
  ·rw [if_pos h2] at h
   cases h
  ·rw [if_neg h2] at h ⊢
   by_cases h3:has b.2.2.2.1 uid=true
   ·rw [if_pos h3]
    exact ⟨check_zero.mp (Classical.not_not.mp h1),by omega,by omega,by omega,h3,rfl⟩
   ·rw [if_neg h3] at h
    cases h
theorem lay_all:((List.range 32).all λx=>(List.range 32).all λy=>(List.range 3).all λk =>
  decide ((lay k (UInt8.ofNat x) (UInt8.ofNat y)).toNat<32)&&decide (lay k (lay k (UInt8.ofNat x) (UInt8.ofNat y)) (UInt8.ofNat y)=lay k (UInt8.ofNat x) (UInt8.ofNat y))&&decide (lay 2 (lay 1 (UInt8.ofNat x) (UInt8.ofNat y)) (UInt8.ofNat y)=lay 2 (UInt8.ofNat x) (UInt8.ofNat y)))=true:=by kernel_rfl
theorem lay_eq {how:Int} {was f:UInt8} (h1:0<=how) (h2:how<=2) (hw:was.toNat<32) (hf:f.toNat<32) :
  (lay how was f).toNat<32/\lay how (lay how was f) f=lay how was f/\lay 2 (lay 1 was f) f=lay 2 was f:=by
 have h:=List.all_eq_true.mp (List.all_eq_true.mp (List.all_eq_true.mp lay_all was.toNat (List.mem_range.mpr hw)) f.toNat (List.mem_range.mpr hf)) how.toNat (List.mem_range.mpr (by omega))
 rw [UInt8.ofNat_toNat,UInt8.ofNat_toNat,yk,yk,xX,xX,xX] at h
 rw [show ((how.toNat:Nat):Int)=how by omega] at h
 exact ⟨h.1.1,h.1.2,h.2⟩
theorem relay_1 (uid how:Int) (f:UInt8) (a:yO):(relay uid how f a).1=a.1:=by
 unfold relay;split <;> rfl
theorem relay_3 (uid how:Int) (f:UInt8) (a:yO):(relay uid how f a).2.2.1=a.2.2.1:=by
 unfold relay;split <;> rfl
theorem laid_right {b:wI} {uid how:Int} {f:UInt8} (R:Right b) (h1:0<=how) (h2:how<=2) (h3:f.toNat<32):Right (laid b uid how f) where
 valid:=R.valid
 next:=R.next
 few:=by
  simp only [laid,List.length_map];exact R.few
 each:=λl hl=>by
  simp only [laid] at hl ⊢
  obtain ⟨a,ha,rfl⟩:=List.mem_map.mp hl
  have q:=R.each a ha
  rw [relay_1,relay_3]
  refine ⟨q.1,q.2.1,?_,q.2.2.2⟩
  unfold relay
  split
  ·exact (lay_eq h1 h2 q.2.2.1 h3).1
  ·exact q.2.2.1
 rise:=by
  simp only [laid]
  rw [List.pairwise_map]
  simp only [relay_1]
  exact R.rise
def cutd (b:wI) (uid:Int):wI:=(b.1,b.2.1,b.2.2.1,b.2.2.2.1.filter (keep uid),())
theorem cut_good {b:wI} {uid:Int} (R:Right b):cut b uid=if has b.2.2.2.1 uid then (cutd b uid,0,()) else (yY,9,()):=by
 unfold cut
 rw [if_neg (not_not_intro (check_zero.mpr R))]
 rfl
theorem cutd_right {b:wI} (R:Right b) (uid:Int):Right (cutd b uid) where
 valid:=R.valid
 next:=R.next
 few:=by
  have:=R.few
  exact Nat.le_trans (List.length_filter_le _ _) this
 each:=λl hl=>R.each l ((List.mem_filter.mp hl).1)
 rise:=List.Pairwise.filter _ R.rise
def added (b:wI) (f:UInt8) (p:List UInt8):wI:=(b.1,b.2.1,b.2.2.1+1,b.2.2.2.1++[(b.2.2.1,f,p,())],())
theorem add_good {b:wI} {f:UInt8} {p:List UInt8} (R:Right b) (hf:f.toNat<32) (hp:p.length<=600) :
  add b f p=if b.2.2.2.1.length=32\/b.2.2.1=4294967295 then (yY,0,8,()) else (added b f p,b.2.2.1,0,()):=by
 unfold add
 rw [if_neg (not_not_intro (check_zero.mpr R)),if_neg (by omega),if_neg (by omega)]
 rfl
theorem added_right {b:wI} {f:UInt8} {p:List UInt8} (R:Right b) (hf:f.toNat<32) (hp:p.length<=600) (h:¬ (b.2.2.2.1.length=32\/b.2.2.1=4294967295)):Right (added b f p) where
 valid:=R.valid
 next:=by
  have:=R.next
  simp only [added];omega
 few:=by
  have:=R.few
  simp only [added,yU,List.length_cons,List.length_nil];omega
 each:=λl hl=>by
  have hn:=R.next
  simp only [added] at hl ⊢
  rcases List.mem_append.mp hl with hl | hl
  ·have q:=R.each l hl
   exact ⟨q.1,by omega,q.2.2.1,q.2.2.2⟩
  ·rw [List.mem_singleton.mp hl]
   exact ⟨by omega,by simp only;omega,hf,hp⟩
 rise:=by
  simp only [added]
  rw [List.pairwise_append]
  refine ⟨R.rise,List.pairwise_singleton _ _,λx hx y hy=>?_⟩
  rw [List.mem_singleton.mp hy]
  exact (R.each x hx).2.1
end
end Go.Fo
namespace Go.Fo
open Go Go.Ev
set_option maxRecDepth 100000
abbrev Tx:Type:=List UInt8
abbrev Bx:Type:=Tx×(Int×(Int×(List yO×Unit)))
theorem cb_le:∀ (a b:Tx),Lib.compareBytes a b=if a<b then -1 else if a=b then 0 else 1
 | [],[]=>by simp [Lib.compareBytes]
 | [],b::bs=>by simp [Lib.compareBytes]
 | a::r,[]=>by simp [Lib.compareBytes]
 | a::r,b::bs=>by
  have ih:=cb_le r bs
  simp only [Lib.compareBytes,List.cons_lt_cons_iff,List.cons.injEq]
  by_cases h1:a<b
  ·simp [h1]
  ·by_cases h2:b<a
   ·have h3:a≠b:=λe=>by subst e;exact h1 h2
    simp [h1,h2,h3]
   ·have h3:a=b:=by
     apply UInt8.toNat_inj.1
     have k1:¬ a.toNat<b.toNat:=λh=>h1 (UInt8.lt_iff_toNat_lt.2 h)
     have k2:¬ b.toNat<a.toNat:=λh=>h2 (UInt8.lt_iff_toNat_lt.2 h)
     omega
    subst h3
    simp [h1,ih]
theorem u8_eq {a b:UInt8} (h1:¬ a<b) (h2:¬ b<a):a=b:=by
 apply UInt8.toNat_inj.1
 have k1:¬ a.toNat<b.toNat:=λh=>h1 (UInt8.lt_iff_toNat_lt.2 h)
 have k2:¬ b.toNat<a.toNat:=λh=>h2 (UInt8.lt_iff_toNat_lt.2 h)
 omega
theorem wK:∀ {a b:Tx},¬ a<b->a≠b->b<a
 | [],[],_,h=>absurd rfl h
 | [],_::_,h,_=>absurd (by simp) h
 | _::_,[],_,_=>by simp
 | a::r,b::bs,h1,h2=>by
  rw [List.cons_lt_cons_iff] at h1 ⊢
  rw [not_or,not_and] at h1
  by_cases h3:b<a
  ·exact .inl h3
  ·have h4:=u8_eq h1.1 h3
   subst h4
   exact .inr ⟨rfl,wK (h1.2 rfl) λe=>h2 (by rw [e])⟩
theorem cmpb (b:Bx) (nm:Tx):F113 (((b.1,b.2.1,b.2.2.1,b.2.2.2.1,()),nm,()),())=some (Lib.compareBytes b.1 nm,()):=rfl
abbrev yH:Bx:=([],0,0,[],())
theorem getDb_lt {ls:List Bx} (h:ls.Pairwise (λa b=>a.1<b.1)) {i j:Nat} (hij:i<j) (hj:j<ls.length) (d:Bx):(ls.getD i d).1<(ls.getD j d).1:=by
 have:=List.pairwise_iff_getElem.mp h i j (by omega) hj hij
 rw [xk,xk,List.getElem?_eq_getElem hj,List.getElem?_eq_getElem (show i<ls.length by omega)]
 exact this
theorem cb_neg (a b:Tx):Lib.compareBytes a b<0<->a<b:=by
 rw [cb_le]
 split
 ·simp [*]
 ·split <;> simp [*]
theorem L112_eq (ls:List Bx) (nm:Tx) (hl:ls.length<=32) (hr:ls.Pairwise (λa b=>a.1<b.1)) :
  ∃ lo:Nat,sD ((ls,nm,(),((ls.length:Nat):Int),(0:Int),((ls.length:Nat):Int),()),())=some ((ls,nm,(),((ls.length:Nat):Int),(lo:Int),()),())/\lo<=ls.length/\(∀ k,k<lo->(ls.getD k yH).1<nm)/\(∀ k,lo<=k->k<ls.length->¬ (ls.getD k yH).1<nm):=by
 have hF:=zK
 have h:=yE (f:=w5) (p:=((ls,nm,(),((ls.length:Nat):Int),(0:Int),((ls.length:Nat):Int),()),()))
  (λp=>∃ lo hi:Nat,p=((ls,nm,(),((ls.length:Nat):Int),(lo:Int),(hi:Int),()),())/\lo<=hi/\hi<=ls.length/\(∀ k,k<lo->(ls.getD k yH).1<nm)/\(∀ k,hi<=k->k<ls.length->¬ (ls.getD k yH).1<nm))
  (λp=>(p.1.2.2.2.2.2.1-p.1.2.2.2.2.1).toNat)
  (λr=>∃ lo:Nat,r=((ls,nm,(),((ls.length:Nat):Int),(lo:Int),()),())/\lo<=ls.length/\(∀ k,k<lo->(ls.getD k yH).1<nm)/\(∀ k,lo<=k->k<ls.length->¬ (ls.getD k yH).1<nm))
  (λp hp=>by
   obtain ⟨lo,hi,rfl,h1,h2,h3,h4⟩:=hp
   by_cases hlt:lo<hi
   ·left
    have hm1:lo<=(lo+hi)/2:=by omega
    have hm2:(lo+hi)/2<hi:=by omega
    have hm3:(lo+hi)/2<ls.length:=by omega
    have hg:=cmpb (ls.getD ((lo+hi)/2) yH) nm
    have hh:w5 ((ls,nm,(),((ls.length:Nat):Int),(lo:Int),(hi:Int),()),())=some (.inl (if (ls.getD ((lo+hi)/2) yH).1<nm then ((ls,nm,(),((ls.length:Nat):Int),(((lo+hi)/2+1:Nat):Int),(hi:Int),()),()) else ((ls,nm,(),((ls.length:Nat):Int),(lo:Int),(((lo+hi)/2:Nat):Int),()),()))):=by
     simp only [w5,ym,yc,hlt,zU,zG,zE,mid (show lo+hi<1000 by omega),hm3,Bool.and_true,zr]
     rw [hg]
     simp only [zE]
     by_cases hc:(ls.getD ((lo+hi)/2) yH).1<nm
     ·simp only [zW ((cb_neg _ _).2 hc),hc,↓reduceIte,yN (show (lo+hi)/2<9223372036854775807 by omega)]
      rfl
     ·simp only [zz (λh=>hc ((cb_neg _ _).1 h)),hc,↓reduceIte]
      rfl
    by_cases hc:(ls.getD ((lo+hi)/2) yH).1<nm
    ·rw [if_pos hc] at hh
     refine ⟨_,hh,⟨_,hi,rfl,by omega,h2,λk hk=>?_,h4⟩,by simp only;omega⟩
     rcases Nat.lt_or_ge k ((lo+hi)/2) with hk2 | hk2
     ·exact List.lt_trans (getDb_lt hr hk2 hm3 yH) hc
     ·obtain rfl:k=(lo+hi)/2:=by omega
      exact hc
    ·rw [if_neg hc] at hh
     refine ⟨_,hh,⟨lo,_,rfl,hm1,by omega,h3,λk hk hk3=>?_⟩,by simp only;omega⟩
     rcases Nat.lt_or_ge ((lo+hi)/2) k with hk2 | hk2
     ·exact λhh=>hc (List.lt_trans (getDb_lt hr hk2 hk3 yH) hh)
     ·obtain rfl:k=(lo+hi)/2:=by omega
      exact hc
   ·right
    obtain rfl:lo=hi:=by omega
    refine ⟨((ls,nm,(),((ls.length:Nat):Int),(lo:Int),()),()),?_,lo,rfl,h2,h3,h4⟩
    simp only [w5,Int.lt_irrefl,yp,zJ])
  ⟨0,ls.length,rfl,Nat.zero_le _,Nat.le_refl _,λk h=>absurd h (Nat.not_lt_zero _),λk h h'=>by omega⟩ (by simp only;omega)
 obtain ⟨r,h1,lo,rfl,h2⟩:=h
 exact ⟨lo,h1,h2⟩
abbrev wg:Type:=Tx×Int×List Bx×Unit
def yr (ls:List Bx) (nm:Tx):Bool:=ls.any λb=>decide (b.1=nm)
theorem F91_eq (u:wg) (nm:Tx) (hl:u.2.2.1.length<=32) (hr:u.2.2.1.Pairwise (λa b=>a.1<b.1)) :
  ∃ lo:Nat,F91 ((u,nm,()),())=some (((lo:Int),yr u.2.2.1 nm,()),())/\lo<=u.2.2.1.length/\(∀ k,k<lo->(u.2.2.1.getD k yH).1<nm)/\(∀ k,lo<=k->k<u.2.2.1.length->¬ (u.2.2.1.getD k yH).1<nm) /\
   (yr u.2.2.1 nm=true->lo<u.2.2.1.length/\(u.2.2.1.getD lo yH).1=nm)/\(yr u.2.2.1 nm=false->∀ k,k<u.2.2.1.length->(u.2.2.1.getD k yH).1≠nm):=by
 obtain ⟨un,uv,ls,⟨⟩⟩:=u
 change ls.length<=32 at hl
 change ls.Pairwise (λa b=>a.1<b.1) at hr
 obtain ⟨lo,h1,h2,h3,h4⟩:=L112_eq ls nm hl hr
 have hyes:yr ls nm=true->lo<ls.length/\(ls.getD lo yH).1=nm:=λhh=>by
  unfold yr at hh
  rw [List.any_eq_true] at hh
  obtain ⟨b,hm,he⟩:=hh
  rw [xX] at he
  obtain ⟨k,hk,rfl⟩:=List.getElem_of_mem hm
  have e1:(ls.getD k yH).1=nm:=by
   rw [xk,List.getElem?_eq_getElem hk];exact he
  rcases Nat.lt_trichotomy k lo with h | h | h
  ·have:=h3 k h;rw [e1] at this;exact absurd this (List.lt_irrefl _)
  ·subst h;exact ⟨hk,e1⟩
  ·have q1:=getDb_lt hr h hk yH
   have q2:=h4 lo (Nat.le_refl _) (by omega)
   rw [e1] at q1
   exact absurd q1 q2
 have hno:yr ls nm=false->∀ k,k<ls.length->(ls.getD k yH).1≠nm:=λhh k hk he=>by
  unfold yr at hh
  rw [List.any_eq_false] at hh
  have:=hh ls[k] (List.getElem_mem hk)
  rw [xX] at this
  apply this
  rw [xk,List.getElem?_eq_getElem hk] at he
  exact he
 refine ⟨lo,?_,h2,h3,h4,hyes,hno⟩
 simp only [F91,F112c113,h1,zE,ym,yc,Bool.true_and,zr]
 by_cases hlo:lo<ls.length
 ·simp only [hlo,zU,Bool.true_or,zG]
  rw [cmpb (ls.getD lo yH) nm]
  simp only [zE]
  have e:decide (Lib.compareBytes (ls.getD lo yH).1 nm=0)=yr ls nm:=by
   cases hb:yr ls nm with
   | true =>
    rw [(hyes hb).2,cb_le,if_neg (List.lt_irrefl _),if_pos rfl]
    rfl
   | false =>
    have:=hno hb lo hlo
    rw [cb_le,if_neg (h4 lo (Nat.le_refl _) hlo),if_neg this]
    rfl
  rw [e]
 ·have e:yr ls nm=false:=by
   cases hb:yr ls nm with
   | true=>exact absurd (hyes hb).1 hlo
   | false=>rfl
  simp only [hlo,yp,yq,Bool.or_true,zG,zJ,e,zE]
theorem L33_eq (nm:List UInt8) (v n:Int) (ls ks:List yO) (hl:ls.length<=32) (hb:∀ l∈ls,l.2.2.1.length<=600) :
  L33_0 (((),(),((ls.length:Nat):Int),(0:Int),()),((nm,v,n,(),()),((),(),(),(),()),ls,ks,()))=some (((),(),()),((nm,v,n,(),()),((),(),(),(),()),ls,ks,())):=by
 have hF:=zK
 have h:=yL (f:=B33_0) (λ(_:Unit) i=>(((),(),((ls.length:Nat):Int),(i:Int),()),((nm,v,n,(),()),((),(),(),(),()),ls,ks,()))) ls (λ_ _=>.inl ())
  (λ_=>(((),(),()),((nm,v,n,(),()),((),(),(),(),()),ls,ks,()))) (b:=()) (λb i a hi ha=>?_) (λb=>?_) (by omega)
 ·rw [wE] at h
  exact h
 ·have hm:a∈ls:=by
   rw [<- ha (0,0,[],()),xk,List.getElem?_eq_getElem hi]
   exact List.getElem_mem hi
  simp only [B33_0,ym,yc,hi,zU,Bool.and_true,zG,zE,zr,ha,F35_eq _ (hb a hm),yN (show i<9223372036854775807 by omega)]
  rw [set_same ls i (a.1,a.2.1,a.2.2.1,()) (λd=>by rw [ha])]
 ·simp only [B33_0,Int.lt_irrefl,yp,zJ]
theorem F33_eq (b:wI) (hl:b.2.2.2.1.length<=32) (hb:∀ l∈b.2.2.2.1,l.2.2.1.length<=600):F33 ((b,()),())=some ((b.1,b.2.1,b.2.2.1,b.2.2.2.1,()),()):=by
 obtain ⟨nm,v,n,ls,u⟩:=b
 cases u
 simp only [F33,F44_eq ls hl,zE,L33_eq nm v n ls [] hl hb]
abbrev P2i:Type:=(Int×Int×Unit)×Unit
def heldS (b:Bx) (c:Int×Int):(Int×Int)⊕P2i:=.inl (zX (c.1+(b.2.2.2.1.length:Int)),zX (c.2+size b.2.2.2.1))
def held (ls:List Bx):P2i:=zd heldS (λc=>((c.1,c.2,()),())) (0,0) ls
def wth (ls:List Bx):Bool:=decide ((held ls).1.1<=40)&&decide ((held ls).1.2.1<=1200)
theorem F101_eq (u:wg) (hl:u.2.2.1.length<=32) (hb:∀ b∈u.2.2.1,b.2.2.2.1.length<=32):F101 ((u,()),())=some (wth u.2.2.1,()):=by
 have hF:=zK
 obtain ⟨un,uv,ls,⟨⟩⟩:=u
 change ls.length<=32 at hl
 change ∀ b∈ls,b.2.2.2.1.length<=32 at hb
 have h:L101_0 (((0:Int),(0:Int),ls,((ls.length:Nat):Int),(0:Int),()),())=some (held ls):=by
  unfold L101_0 held
  refine zs (b:=((0,0):Int×Int)) (f:=B101_0) (λ(c:Int×Int) i=>((c.1,c.2,ls,((ls.length:Nat):Int),(i:Int),()),())) ls heldS _ (λ_ _=>True) (λc i a _ hi ha=>?_) (λc _=>?_) (by omega) trivial
  ·refine .inl ⟨_,rfl,trivial,?_⟩
   have hm:a∈ls:=by
    have:=ha a
    rw [xk,List.getElem?_eq_getElem hi] at this
    rw [<- this]
    exact List.getElem_mem hi
   have hs:=F66_eq (a.1,a.2.1,a.2.2.1,a.2.2.2.1,()) (Nat.le_trans (hb a hm) (by decide))
   have hw:=yN (show i<9223372036854775807 by omega)
   simp only [B101_0,ym,yc,hi,zU,Bool.and_true,zG,zE,zr,ha,hs]
   rw [hw]
  ·simp only [B101_0,Int.lt_irrefl,yp,zJ]
 simp only [F101,h,zE,wth]
abbrev Dd:Type:=Int×Tx×Tx×Tx×Int×Int×UInt8×Int×Int×List UInt8×Unit
def did (b:wI) (d:Dd):wI×Int×Int :=
 if d.1=4 then ((add b d.2.2.2.2.2.2.1 d.2.2.2.2.2.2.2.2.2.1).1,(add b d.2.2.2.2.2.2.1 d.2.2.2.2.2.2.2.2.2.1).2.1,(add b d.2.2.2.2.2.2.1 d.2.2.2.2.2.2.2.2.2.1).2.2.1)
 else if d.1=5 then ((flag b d.2.2.2.2.1 d.2.2.2.2.2.1 d.2.2.2.2.2.2.1).1,0,(flag b d.2.2.2.2.1 d.2.2.2.2.2.1 d.2.2.2.2.2.2.1).2.1)
 else if d.1=6 then ((cut b d.2.2.2.2.1).1,0,(cut b d.2.2.2.2.1).2.1)
 else (b,0,0)
def yI (b:Bx):wI:=(b.1,b.2.1,b.2.2.1,b.2.2.2.1,())
def wi (b:wI):Bx:=(b.1,(b.2.1,(b.2.2.1,(b.2.2.2.1,()))))
theorem did_len (b:wI) (d:Dd) (h:b.2.2.2.1.length<=32):(did b d).1.2.2.2.1.length<=32:=by
 unfold did
 split
 ·exact add_len _ _ _
 ·split
  ·exact flag_len _ _ _ _
  ·split
   ·exact cut_len _ _
   ·exact h
theorem F32_eq (l:List Bx) (h:l.length<=32):F32 ((l,()),())=some ((),(l,())):=by
 have hb:zC (([]:List Bx).length+l.length) 56=true:=zT (by simp only [List.length_nil];omega)
 cases l with
 | nil=>simp only [F32,List.isEmpty_nil,zG,hb,List.append_nil,zR]
 | cons a t=>simp only [F32,List.isEmpty_cons,zJ,hb,zG,List.nil_append]
def boxd (u:wg) (lo:Nat) (d:Dd):wg×Int×Int×Unit :=
 if (did (yI (u.2.2.1.getD lo yH)) d).2.2≠0 then (u,0,(did (yI (u.2.2.1.getD lo yH)) d).2.2,())
 else if wth (u.2.2.1.set lo (wi (did (yI (u.2.2.1.getD lo yH)) d).1))=true then ((u.1,u.2.1,u.2.2.1.set lo (wi (did (yI (u.2.2.1.getD lo yH)) d).1),()),(did (yI (u.2.2.1.getD lo yH)) d).2.1,0,())
 else ((u.1,u.2.1,u.2.2.1.set lo (wi (did (yI (u.2.2.1.getD lo yH)) d).1),()),0,8,())
theorem F78_eq (u:wg) (d:Dd) (hl:u.2.2.1.length<=32) (hb:∀ b∈u.2.2.1,b.2.2.2.1.length<=32) (hr:u.2.2.1.Pairwise (λa b=>a.1<b.1)) :
  (yr u.2.2.1 d.2.2.1=false/\F78 ((u,d,()),())=some ((u,0,9,()),())) \/
  ∃ lo:Nat,lo<u.2.2.1.length/\(u.2.2.1.getD lo yH).1=d.2.2.1/\F78 ((u,d,()),())=some (boxd u lo d,()):=by
 obtain ⟨un,uv,ls,⟨⟩⟩:=u
 obtain ⟨lo,h1,_,_,_,h5,_⟩:=F91_eq (un,uv,ls,()) d.2.2.1 hl hr
 obtain ⟨dd,du,db,dt,uid,how,fl,ds,de,by',⟨⟩⟩:=d
 change ls.length<=32 at hl
 change ∀ b∈ls,b.2.2.2.1.length<=32 at hb
 simp only at h1 h5
 cases hh:yr ls db with
 | false =>
  refine .inl ⟨rfl,?_⟩
  simp only [F78,h1,hh,zE,yq,zG]
 | true =>
  obtain ⟨h6,h7⟩:=h5 hh
  refine .inr ⟨lo,h6,h7,?_⟩
  have hm:ls.getD lo yH∈ls:=by
   rw [xk,List.getElem?_eq_getElem h6]
   exact List.getElem_mem h6
  have hd:=did_len (yI (ls.getD lo yH)) (dd,du,db,dt,uid,how,fl,ds,de,by',()) (hb _ hm)
  have key:∀ B:Bx,B.2.2.2.1.length<=32->F101 (((un,uv,ls.set lo B,()),()),())=some (wth (ls.set lo B),()):=λB hB =>
   F101_eq (un,uv,ls.set lo B,()) (by simpa using hl) (λb hbm=>by
    rcases List.mem_or_eq_of_mem_set hbm with h | rfl
    ·exact hb b h
    ·exact hB)
  have h40:=F32_eq ls hl
  unfold boxd
  unfold did at hd ⊢
  simp only [F78,h1,hh,zE,zu,zJ,yc,ym,h6,zU,Bool.and_true,zG,zr]
  have fin:∀ (B:wI) (n e:Int),B.2.2.2.1.length<=32 ->
    (cond (!(decide (e=(0:Int)))) (some (((un,uv,ls,()),(0:Int),e,()),())) (Option.bind (F32 ((ls,()),())) λr11=>(Option.bind (cond ((decide ((0:Int)<=(lo:Int)))&&(decide ((lo:Int)<(((List.length r11.2.1):Nat):Int)))) (some (((),(),n,()),((un,uv,(),()),((),(),(),()),(List.set r11.2.1 (Int.toNat (lo:Int)) (wi B)),([]:List Bx),()))) none) λp12=>(Option.bind (Option.bind (F101 (((p12.2.1.1,p12.2.1.2.1,p12.2.2.2.1,()),()),())) λr13=>(some (((),(),p12.1.2.2.1,(!r13.1),()),((p12.2.1.1,p12.2.1.2.1,(),()),((),(),(),()),p12.2.2.2.1,p12.2.2.2.2.1,())))) λp14=>(cond p14.1.2.2.2.1 (Option.bind (some (((),(),(),()),((p14.2.1.1,p14.2.1.2.1,(),()),p14.2.2.2.1,()))) λp15=>(some (((p15.2.1.1,p15.2.1.2.1,p15.2.2.1,()),(0:Int),(8:Int),()),()))) (some (((p14.2.1.1,p14.2.1.2.1,p14.2.2.2.1,()),p14.1.2.2.1,(0:Int),()),())))))))
    = some ((if e≠0 then ((un,uv,ls,()),0,e,()) else if wth (ls.set lo (wi B))=true then ((un,uv,ls.set lo (wi B),()),n,0,()) else ((un,uv,ls.set lo (wi B),()),0,8,()):wg×Int×Int×Unit),()):=λB n e hB=>by
   by_cases he:e=0
   ·simp only [he,zU,zu,zJ,h40,zE,yc,ym,h6,Bool.and_true,zG,zr,key (wi B) hB,ne_eq,not_true_eq_false,↓reduceIte]
    cases wth (ls.set lo (wi B)) <;> simp
   ·simp only [he,yp,yq,zG,ne_eq,not_false_eq_true,↓reduceIte]
  by_cases c4:dd=4
  ·simp only [c4,↓reduceIte,zU,zG,F98_eq,zE] at hd ⊢
   exact fin _ _ _ hd
  ·by_cases c5:dd=5
   ·simp only [c5,show ¬ (5:Int)=4 from by decide,yp,zJ,↓reduceIte,zU,zG,F99_eq,zE] at hd ⊢
    exact fin _ _ _ hd
   ·by_cases c6:dd=6
    ·simp only [c6,show ¬ (6:Int)=4 from by decide,show ¬ (6:Int)=5 from by decide,yp,zJ,↓reduceIte,zU,zG,F100_eq,zE] at hd ⊢
     exact fin _ _ _ hd
    ·simp only [c4,c5,c6,yp,zJ,↓reduceIte,zE] at hd ⊢
     exact fin (yI (ls.getD lo yH)) 0 0 hd
def inbx:Tx:=[73,78,66,79,88]
def xz (u:wg) (lo:Nat) (d:Dd):wg×Int×Int×Unit :=
 if d.1=2 then
  if yr u.2.2.1 d.2.2.1=true then (u,0,10,())
  else if u.2.2.1.length=6\/u.2.1=4294967295 then (u,0,8,())
  else ((u.1,zX (u.2.1+1),tG u.2.2.1 (lo:Int) [(d.2.2.1,(zX (u.2.1+1),(1,([],()))))],()),zX (u.2.1+1),0,())
 else if yr u.2.2.1 d.2.2.1=false then (u,0,9,())
 else if d.2.2.1=inbx then (u,0,13,())
 else ((u.1,u.2.1,delL u.2.2.1 (lo:Int) ((lo+1:Nat):Int),()),0,0,())
theorem F76_eq (u:wg) (d:Dd) (hl:u.2.2.1.length<=32) (hr:u.2.2.1.Pairwise (λa b=>a.1<b.1)) :
  ∃ lo:Nat,F76 ((u,d,()),())=some (xz u lo d,())/\lo<=u.2.2.1.length/\(∀ k,k<lo->(u.2.2.1.getD k yH).1<d.2.2.1)/\(∀ k,lo<=k->k<u.2.2.1.length->¬ (u.2.2.1.getD k yH).1<d.2.2.1) /\
   (yr u.2.2.1 d.2.2.1=true->lo<u.2.2.1.length/\(u.2.2.1.getD lo yH).1=d.2.2.1)/\(yr u.2.2.1 d.2.2.1=false->∀ k,k<u.2.2.1.length->(u.2.2.1.getD k yH).1≠d.2.2.1):=by
 obtain ⟨un,uv,ls,⟨⟩⟩:=u
 obtain ⟨lo,h1,h2,h3,h4,h5,h6⟩:=F91_eq (un,uv,ls,()) d.2.2.1 hl hr
 refine ⟨lo,?_,h2,h3,h4,h5,h6⟩
 clear h3 h4 h6
 obtain ⟨dd,du,db,dt,uid,how,fl,ds,de,by',⟨⟩⟩:=d
 change ls.length<=32 at hl
 simp only at h1 h2 h5
 have h40:=F32_eq ls hl
 have hi:∀ x:Bx,insOK ls (lo:Int) [x]=true:=λx=>by
  unfold insOK
  simp only [va,yk,xX]
  omega
 unfold xz
 by_cases c2:dd=2
 ·cases hh:yr ls db with
  | true=>simp only [F76,h1,hh,c2,zU,Bool.true_and,zG,zE,↓reduceIte]
  | false =>
   by_cases c6:ls.length=6\/uv=4294967295
   ·have e:(decide (((ls.length:Nat):Int)=(6:Int))||decide (uv=(4294967295:Int)))=true:=by
     rw [Bool.or_eq_true,xX,xX];omega
    simp only [F76,h1,hh,c2,e,c6,zU,Bool.true_and,zG,zJ,zE,↓reduceIte,Bool.false_eq_true]
   ·have e:(decide (((ls.length:Nat):Int)=(6:Int))||decide (uv=(4294967295:Int)))=false:=by
     rw [Bool.or_eq_false_iff,decide_eq_false_iff_not,decide_eq_false_iff_not];omega
    simp only [F76,h1,hh,c2,e,c6,zU,Bool.true_and,Bool.and_false,zG,zJ,zE,↓reduceIte,Bool.false_eq_true,h40,hi,zR]
 ·cases hh:yr ls db with
  | false=>simp only [F76,h1,hh,c2,yp,Bool.false_and,zG,zJ,zE,↓reduceIte,yq]
  | true =>
   obtain ⟨h7,_⟩:=h5 hh
   have hw:=yN (show lo<9223372036854775807 by omega)
   have hd:delOK ls (lo:Int) ((lo+1:Nat):Int)=true:=by
    unfold delOK
    simp only [yk,xX]
    omega
   by_cases ci:db=inbx
   ·subst ci
    have ci':decide (inbx=([73,78,66,79,88]:List UInt8))=true:=rfl
    simp only [F76,h1,hh,c2,ci',yp,Bool.false_and,zG,zJ,zE,↓reduceIte,zu,Bool.true_eq_false]
   ·have ci':¬ db=[73,78,66,79,88]:=ci
    simp only [F76,h1,hh,c2,ci,ci',yp,Bool.false_and,zG,zJ,zE,↓reduceIte,zu,h40,hw,hd,Bool.true_eq_false]
abbrev Mp:Type:=List (Tx×(Tx×(Int×(List Bx×Unit))))
def come (m:Mp) (u:wg):Int×Mp :=
 if (zF .str m u.1).isSome=true then (10,m) else if m.length=16 then (8,m) else (0,zZ .str m u.1 (u.1,(u.2.1,(u.2.2.1,()))))
theorem F74_eq (m:Mp) (u:wg):F74 ((true,u,()),(((),()),m,()))=some ((come m u).1,(((),()),(come m u).2,())):=by
 obtain ⟨un,uv,ls,⟨⟩⟩:=u
 unfold come
 simp only [F74,zG,zR,zE]
 cases hg:(zF .str m un).isSome with
 | true=>simp only [zG,↓reduceIte]
 | false =>
  by_cases h:m.length=16
  ·have h':decide (((m.length:Nat):Int)=16)=true:=zW (by omega)
   rw [if_neg (by simp),if_pos h]
   simp only [zJ,h',zG]
  ·have h':decide (((m.length:Nat):Int)=16)=false:=zz (by omega)
   rw [if_neg (by simp),if_neg h]
   simp only [zJ,h']
structure Good (u:wg):Prop where
 few:u.2.2.1.length<=6
 rise:u.2.2.1.Pairwise (λa b=>a.1<b.1)
 each:∀ b∈u.2.2.1,Right (yI b)
 valid:1<=u.2.1/\u.2.1<=4294967295
 below:∀ b∈u.2.2.1,b.2.1<=u.2.1
def usr (x:Tx×(Int×(List Bx×Unit))):wg:=(x.1,x.2.1,x.2.2.1,())
theorem Good.len {u:wg} (g:Good u):∀ b∈u.2.2.1,b.2.2.2.1.length<=32:=λb hb=>(g.each b hb).few
theorem uA {ls:List Bx} {lo:Nat} (h:lo<ls.length):ls.getD lo yH∈ls:=by
 rw [xk,List.getElem?_eq_getElem h]
 exact List.getElem_mem h
def kept (m:Mp) (user:Tx) (r:wg×Int×Int×Unit):(Int×Int×Unit)×Mp :=
 ((r.2.1,r.2.2.1,()),if r.2.2.1=0 then zZ .str m user (r.1.1,(r.1.2.1,(r.1.2.2.1,()))) else m)
def tc (user:Tx):wg:=(user,1,[(inbx,(1,(1,([],()))))],())
theorem F62_bad (m:Mp) (d:Dd) (e:Int) (hc:F73 ((d,()),())=some (e,())) (he:e≠0):F62 ((true,d,()),(((),()),m,()))=some ((0,e,()),(((),()),m,())):=by
 obtain ⟨dd,du,db,dt,uid,how,fl,ds,de,by',⟨⟩⟩:=d
 simp only [F62,hc,zE,zz he,yq,zG]
theorem F62_open (m:Mp) (d:Dd) (hc:F73 ((d,()),())=some (0,())) (h1:d.1=1) :
  F62 ((true,d,()),(((),()),m,()))=some ((1,(come m (tc d.2.1)).1,()),(((),()),(come m (tc d.2.1)).2,())):=by
 obtain ⟨dd,du,db,dt,uid,how,fl,ds,de,by',⟨⟩⟩:=d
 simp only at h1
 subst h1
 have h22:=F74_eq m (tc du)
 unfold tc inbx at h22
 simp only [F62,hc,zE,zU,zu,zJ,zG,zR,h22,tc,inbx]
theorem F62_gone (m:Mp) (d:Dd) (hc:F73 ((d,()),())=some (0,())) (h1:d.1≠1) (h8:d.1≠8) (hm:zF .str m d.2.1=none) :
  F62 ((true,d,()),(((),()),m,()))=some ((0,9,()),(((),()),m,())):=by
 obtain ⟨dd,du,db,dt,uid,how,fl,ds,de,by',⟨⟩⟩:=d
 simp only at h1 h8 hm
 simp only [F62,hc,zE,zU,zu,zJ,zG,zR,hm,zz h1,zz h8,Option.isSome_none,yq]
theorem F62_shape (m:Mp) (d:Dd) (u:Tx×(Int×(List Bx×Unit))) (lo:Nat) (hc:F73 ((d,()),())=some (0,())) (h2:d.1=2\/d.1=3) (hm:zF .str m d.2.1=some u)
  (h24:F76 ((usr u,d,()),())=some (xz (usr u) lo d,())) :
  F62 ((true,d,()),(((),()),m,()))=some ((kept m d.2.1 (xz (usr u) lo d)).1,(((),()),(kept m d.2.1 (xz (usr u) lo d)).2,())):=by
 obtain ⟨dd,du,db,dt,uid,how,fl,ds,de,by',⟨⟩⟩:=d
 obtain ⟨un,uv,ls,⟨⟩⟩:=u
 simp only at h2 hm
 generalize xz (usr (un,uv,ls,())) lo (dd,du,db,dt,uid,how,fl,ds,de,by',())=R at h24 ⊢
 obtain ⟨⟨ru,rv,rl,⟨⟩⟩,rn,re,⟨⟩⟩:=R
 unfold usr at h24
 simp only at h24
 have h1:dd≠1:=by omega
 have h8:dd≠8:=by omega
 by_cases h22:dd=2
 ·subst h22
  simp only [F62,hc,zE,zU,zu,zJ,zG,zR,hm,zz h1,zz h8,Option.isSome_some,Option.getD_some,h24,kept]
  by_cases hr:re=0
  ·simp [hr]
  ·simp [hr]
 ·have h33:dd=3:=by omega
  subst h33
  simp only [F62,hc,zE,zU,zu,zJ,zG,zR,hm,zz h1,zz h8,zz h22,Option.isSome_some,Option.getD_some,h24,kept]
  by_cases hr:re=0
  ·simp [hr]
  ·simp [hr]
theorem F62_box (m:Mp) (d:Dd) (u:Tx×(Int×(List Bx×Unit))) (R:wg×Int×Int×Unit) (hc:F73 ((d,()),())=some (0,())) (h1:d.1≠1) (h2:d.1≠2) (h3:d.1≠3) (h7:d.1≠7) (h8:d.1≠8) (h9:d.1≠9) (hm:zF .str m d.2.1=some u)
  (h26:F78 ((usr u,d,()),())=some (R,())) :
  F62 ((true,d,()),(((),()),m,()))=some ((kept m d.2.1 R).1,(((),()),(kept m d.2.1 R).2,())):=by
 obtain ⟨dd,du,db,dt,uid,how,fl,ds,de,by',⟨⟩⟩:=d
 obtain ⟨un,uv,ls,⟨⟩⟩:=u
 obtain ⟨⟨ru,rv,rl,⟨⟩⟩,rn,re,⟨⟩⟩:=R
 simp only at h1 h2 h3 h7 h8 h9 hm
 unfold usr at h26
 simp only at h26
 simp only [F62,hc,zE,zU,zu,zJ,zG,zR,hm,zz h1,zz h2,zz h3,zz h7,zz h8,zz h9,Option.isSome_some,Option.getD_some,h26,kept]
 by_cases hr:re=0
 ·simp [hr]
 ·simp [hr]

structure Kept (b:wI) (d:Dd) (r:wI×Int×Int):Prop where
 right:Right r.1
 name:r.1.1=b.1
 valid:r.1.2.1=b.2.1
 next:b.2.2.1<=r.1.2.2.1
 put:d.1=4->r.2.1=b.2.2.1/\r.1.2.2.1=b.2.2.1+1/\r.1.2.2.2.1=b.2.2.2.1++[(b.2.2.1,d.2.2.2.2.2.2.1,d.2.2.2.2.2.2.2.2.2.1,())]
 else':d.1≠4->r.2.1=0
theorem did_kept {b:wI} (R:Right b) (d:Dd) (h:(did b d).2.2=0):Kept b d (did b d):=by
 obtain ⟨dd,du,db,dt,uid,how,fl,ds,de,by',⟨⟩⟩:=d
 unfold did at h ⊢
 simp only at h ⊢
 by_cases c4:dd=4
 ·subst c4
  simp only [↓reduceIte] at h ⊢
  by_cases hf:fl.toNat<32
  ·by_cases hp:by'.length<=600
   ·rw [add_good R hf hp] at h ⊢
    by_cases hc:b.2.2.2.1.length=32\/b.2.2.1=4294967295
    ·rw [if_pos hc] at h
     exact absurd h (by decide)
    ·rw [if_neg hc]
     exact ⟨added_right R hf hp hc,rfl,rfl,by simp only [added];omega,λ_=>⟨rfl,rfl,rfl⟩,λh=>absurd rfl h⟩
   ·unfold add at h
    rw [if_neg (not_not_intro (check_zero.mpr R)),if_neg (by omega),if_pos (by omega)] at h
    exact absurd h (by decide)
  ·unfold add at h
   rw [if_neg (not_not_intro (check_zero.mpr R)),if_pos (by omega)] at h
   exact absurd h (by decide)
 ·rw [if_neg c4] at h ⊢
  by_cases c5:dd=5
  ·subst c5
   simp only [↓reduceIte] at h ⊢
   obtain ⟨_,h1,h2,h3,h4,h5⟩:=flag_good h
   rw [h5]
   exact ⟨laid_right R h1 h2 h3,rfl,rfl,Int.le_refl _,λh=>absurd h c4,λ_=>rfl⟩
  ·rw [if_neg c5] at h ⊢
   by_cases c6:dd=6
   ·subst c6
    simp only [↓reduceIte] at h ⊢
    rw [cut_good R] at h ⊢
    by_cases hh:has b.2.2.2.1 uid=true
    ·rw [if_pos hh] at h ⊢
     exact ⟨cutd_right R uid,rfl,rfl,Int.le_refl _,λh=>absurd h c4,λ_=>rfl⟩
    ·rw [if_neg hh] at h
     exact absurd h (by decide)
   ·rw [if_neg c6]
    exact ⟨R,rfl,rfl,Int.le_refl _,λh=>absurd h c4,λ_=>rfl⟩
theorem new_good (user:Tx):Good (tc user) where
 few:=by simp [tc]
 rise:=by simp [tc]
 each:=λb hb=>by
  simp only [tc,List.mem_singleton] at hb
  subst hb
  exact ⟨by simp [yI],by simp [yI],by simp [yI],by simp [yI],by simp [yI]⟩
 valid:=by simp [tc]
 below:=λb hb=>by
  simp only [tc,List.mem_singleton] at hb
  subst hb
  simp [tc]
theorem names_rise {ls:List Bx}:ls.Pairwise (λa b=>a.1<b.1)<->(ls.map (λb=>b.1)).Pairwise (λa b=>a<b):=by
 rw [List.pairwise_map]
theorem set_rise {ls:List Bx} (hr:ls.Pairwise (λa b=>a.1<b.1)) {lo:Nat} {B:Bx} (h:B.1=(ls.getD lo yH).1) (hl:lo<ls.length):(ls.set lo B).Pairwise (λa b=>a.1<b.1):=by
 rw [names_rise] at hr ⊢
 rw [List.map_set,set_same]
 ·exact hr
 ·intro d
  rw [xk,List.getElem?_map,List.getElem?_eq_getElem hl,h,xk,List.getElem?_eq_getElem hl]
  rfl
theorem ins_rise {ls:List Bx} (hr:ls.Pairwise (λa b=>a.1<b.1)) {lo:Nat} {x:Bx} (h1:∀ k,k<lo->(ls.getD k yH).1<x.1) (h2:∀ k,lo<=k->k<ls.length->x.1<(ls.getD k yH).1) :
  (ls.take lo++[x]++ls.drop lo).Pairwise (λa b=>a.1<b.1):=by
 have k1:∀ a∈ls.take lo,a.1<x.1:=λa ha=>by
  obtain ⟨i,hi,rfl⟩:=List.mem_take_iff_getElem.1 ha
  have:=h1 i (by omega)
  rw [xk,List.getElem?_eq_getElem (by omega)] at this
  exact this
 have k2:∀ b∈ls.drop lo,x.1<b.1:=λb hb=>by
  obtain ⟨i,hi,rfl⟩:=List.mem_drop_iff_getElem.1 hb
  have:=h2 (lo+i) (by omega) (by omega)
  rw [xk,List.getElem?_eq_getElem (by omega)] at this
  exact this
 rw [lAs,List.pairwise_append]
 refine ⟨hr.sublist (List.take_sublist _ _),?_,λa ha b hb=>?_⟩
 ·rw [List.singleton_append,List.pairwise_cons]
  exact ⟨k2,hr.sublist (List.drop_sublist _ _)⟩
 ·rw [List.singleton_append] at hb
  rcases List.mem_cons.1 hb with rfl | hb
  ·exact k1 a ha
  ·exact List.lt_trans (k1 a ha) (k2 b hb)
theorem del_sub (ls:List Bx) (lo:Nat):(ls.take lo++ls.drop (lo+1)).Sublist ls:=by
 have h:(ls.take lo++ls.drop (lo+1)).Sublist (ls.take lo++ls.drop lo):=by
  refine List.Sublist.append_left ?_ _
  exact List.drop_sublist_drop_left _ (Nat.le_succ lo)
 rw [List.take_append_drop] at h
 exact h
theorem boxd_good {u:wg} (G:Good u) {lo:Nat} (hl:lo<u.2.2.1.length) (d:Dd) (h:(boxd u lo d).2.2.1=0) :
    Good (boxd u lo d).1/\Kept (yI (u.2.2.1.getD lo yH)) d (did (yI (u.2.2.1.getD lo yH)) d) /\
      boxd u lo d=((u.1,u.2.1,u.2.2.1.set lo (wi (did (yI (u.2.2.1.getD lo yH)) d).1),()),(did (yI (u.2.2.1.getD lo yH)) d).2.1,0,()):=by
  have hm:=uA hl
  have R:=G.each _ hm
  have e:boxd u lo d=((u.1,u.2.1,u.2.2.1.set lo (wi (did (yI (u.2.2.1.getD lo yH)) d).1),()),(did (yI (u.2.2.1.getD lo yH)) d).2.1,0,())/\(did (yI (u.2.2.1.getD lo yH)) d).2.2=0:=by
    unfold boxd at h ⊢
    by_cases h0:(did (yI (u.2.2.1.getD lo yH)) d).2.2=0
    . rw [if_neg (not_not_intro h0)] at h ⊢
      by_cases hw:wth (u.2.2.1.set lo (wi (did (yI (u.2.2.1.getD lo yH)) d).1))=true
      . rw [if_pos hw];exact ⟨rfl,h0⟩
      . rw [if_neg hw] at h;exact absurd h (by simp)
    . rw [if_pos h0] at h
      exact absurd h h0
  have K:=did_kept R d e.2
  refine ⟨?_,K,e.1⟩
  rw [e.1]
  generalize did (yI (u.2.2.1.getD lo yH)) d=r at K
  exact {
    few:=by simp only [List.length_set];exact G.few
    rise:=set_rise G.rise (by simp only [wi];rw [K.name];rfl) hl
    each:=λb hb=>by
      rcases List.mem_or_eq_of_mem_set hb with h | rfl
      . exact G.each b h
      . exact K.right
    valid:=G.valid
    below:=λb hb=>by
      rcases List.mem_or_eq_of_mem_set hb with h | rfl
      . exact G.below b h
      . have:=G.below _ hm
        simp only [wi]
        rw [K.valid]
        exact this }
end Go.Fo
