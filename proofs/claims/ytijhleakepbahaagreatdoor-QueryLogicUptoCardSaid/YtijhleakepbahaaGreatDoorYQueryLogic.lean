/- Texts that the last one leans on: its own. -/
import Derived.Test.YtijhleakepbahaaGreatDoorZK
namespace Go.Qy
open Go Go.Ev Go.Proofs
set_option maxRecDepth 100000
noncomputable def F10 (p:(Q44×Unit×Unit)×(Q18×Unit)):Option ((Bool×Bool×Unit)×(Q18×Unit)):=(Option.bind (F6 ((p.1.1,p.2.1,()),())) λr1=>(some ((r1.1.1,(decide (r1.1.2.1=(0:Int))),()),(p.2.1,()))))
noncomputable def O10:Orc:=⟨(.cons (.sl Q0) Q19),[(0,Q68)],(.tup (.cons .b (.cons .b .nil))),[(0,Q68)],F10⟩
noncomputable def H10:HT:=.leaf
noncomputable def X10:List (FuncId×Orc):=[(6,O6)]
theorem run10 (p):evTop Tryz.prog (CX X10 [] [] []) (MX X10 []) Tryz.f10 H10 O10 p=F10 p:=by kernel_rfl
theorem ok10:O10.OK Tryz.prog 10:=ok0 run10 Tryz.func10 Tryz.call10 (hX:=⟨ok6,trivial⟩)
def S11_0:Shape:=⟨[(0,(.sl (.sl Q0))),(3,(.own 0)),(4,(.i .i64))],[(0,Q34)],1⟩
def U11_0:Outs:=[((.exit 0),⟨[(3,(.own 0))],[(0,Q34)],1⟩)]
abbrev T11_0:Type:=(((List Q44)×Unit×Int×Unit)×Q73)
abbrev R11_0:Type:=(Q23×Q73)
def B11_0 (p:T11_0):Option (T11_0⊕R11_0):=(cond (decide (p.1.2.2.1<(p.1.1.length:Int))) (Option.bind (cond ((decide ((0:Int)<=p.1.2.2.1))&&(decide (p.1.2.2.1<(p.1.1.length:Int)))) (cond (bytesOK ((List.length p.2.1)+(List.length (List.getD p.1.1 p.1.2.2.1.toNat ([]:Q44)))) 96) (some (p.1,((p.2.1++(List.getD p.1.1 p.1.2.2.1.toNat ([]:Q44))),()))) none) none) λp1=>(Option.bind (some ((p1.1.1,(),(w64 (p1.1.2.2.1+(1:Int))),()),p1.2)) λp2=>(some (Sum.inl p2)))) (some (Sum.inr (((),()),p.2))))
def L11_0 (p:T11_0):Option R11_0:=loopOf B11_0 p
def H11_0:HT:=(.two .leaf (.two (.one (.join [(.normal,⟨[(0,(.sl (.sl Q0))),(3,(.own 0)),(4,(.i .i64))],[(0,Q34)],1⟩)] .leaf)) (.join [(.normal,⟨[(0,(.sl (.sl Q0))),(3,(.own 0)),(4,(.i .i64))],[(0,Q34)],1⟩)] .leaf)))
def F11 (p:((List Q44)×Unit)×Unit):Option (Unit×Q73):=(Option.bind (Option.bind (L11_0 ((p.1.1,(),(0:Int),()),(([]:List Q1),()))) λp3=>(some (((),()),p3.2))) λp4=>(some ((),p4.2)))
def O11:Orc:=⟨(.cons (.sl (.sl Q0)) .nil),[],(.own 0),[(0,Q34)],F11⟩
def H11:HT:=(.two .leaf (.two .leaf (.two (.join [(.normal,⟨[(3,(.own 0))],[(0,Q34)],1⟩)] (.two .leaf (.one (.loop S11_0 U11_0 L11_0 H11_0)))) .leaf)))
theorem round11_0 (p):round Tryz.prog (CX [] [] [] []) (MX [] []) 0 18 (subc (bodyOf Tryz.f11) [true,true,false,true,false,false]) H11_0 S11_0 U11_0 p=B11_0 p:=by kernel_rfl
theorem run11 (p):evTop Tryz.prog (CX [] [] [] []) (MX [] []) Tryz.f11 H11 O11 p=F11 p:=by kernel_rfl
theorem ok11:O11.OK Tryz.prog 11:=okk run11 Tryz.func11 Tryz.call11 (ls:=[⟨subc (bodyOf Tryz.f11) [true,true,false,true,false,false],H11_0,S11_0,U11_0,L11_0⟩]) ⟨LoopRec.of rfl round11_0,trivial⟩
noncomputable def F4 (p:(Q44×Q44×Q18×Unit)×Unit):Option Q31:=(Option.bind (F9 ((p.1.1,()),())) λr1=>(cond (!(!(decide (r1.1=(0:Int))))) (Option.bind (F9 ((p.1.2.1,()),())) λr2=>(cond (!(decide (r2.1=(0:Int)))) (some (true,())) (Option.bind (some ((p.1.1,p.1.2.1,(),(),(),(),()),(p.1.2.2.1,([((14:Int),((0:UInt8),((0:Int),(([]:List UInt8),(((0:Int),((0:Int),((0:Int),()))),(([]:List UInt8),(([]:List UInt8),())))))))]:List Q1),([((15:Int),((0:UInt8),((0:Int),(([]:List UInt8),(((0:Int),((0:Int),((0:Int),()))),(([]:List UInt8),(([]:List UInt8),())))))))]:List Q1),([((16:Int),((0:UInt8),((0:Int),(([]:List UInt8),(((0:Int),((0:Int),((0:Int),()))),(([]:List UInt8),(([]:List UInt8),())))))))]:List Q1),()))) λp3=>(Option.bind (some ((p3.1.1,p3.1.2.1,(),(),(),((),()),()),(p3.2.2.1,p3.2.2.2.1,p3.2.2.2.2.1,p3.2.1,()))) λp4=>(Option.bind (Option.bind (F11 ((([p4.1.1,p4.1.2.1,p4.2.2.1,p4.2.1]:List Q44),()),())) λr5=>(Option.bind (F10 ((r5.2.1,(),()),(p4.2.2.2.2.1,()))) λr6=>(some ((p4.1.1,p4.1.2.1,p4.2.1,p4.2.2.1,(),((),()),r6.1.1,r6.1.2.1,()),(p4.2.2.2.1,r6.2.1,()))))) λp7=>(Option.bind (Option.bind (F11 ((([p7.1.1,p7.1.2.2.1,p7.1.2.1,p7.1.2.2.1,p7.2.1]:List Q44),()),())) λr8=>(Option.bind (F10 ((r8.2.1,(),()),(p7.2.2.1,()))) λr9=>(some ((p7.1.1,p7.1.2.1,p7.1.2.2.2.1,p7.2.1,((),()),p7.1.2.2.2.2.2.2.1,p7.1.2.2.2.2.2.2.2.1,r9.1.1,r9.1.2.1,()),(r9.2.1,()))))) λp10=>(Option.bind (some ((p10.1.1,p10.1.2.1,p10.1.2.2.1,p10.1.2.2.2.1,((),()),((p10.1.2.2.2.2.2.2.1&&p10.1.2.2.2.2.2.2.2.2.1)&&(!(p10.1.2.2.2.2.2.1 == p10.1.2.2.2.2.2.2.2.1))),()),p10.2)) λp11=>(cond p11.1.2.2.2.2.2.1 (some (false,())) (Option.bind (Option.bind (F11 ((([p11.1.1,p11.1.2.1,p11.1.2.2.2.1]:List Q44),()),())) λr12=>(Option.bind (F10 ((r12.2.1,(),()),p11.2)) λr13=>(some ((p11.1.1,p11.1.2.1,p11.1.2.2.1,p11.1.2.2.2.1,((),()),r13.1.1,r13.1.2.1,()),(r13.2.1,()))))) λp14=>(Option.bind (Option.bind (F11 ((([p14.1.2.1,p14.1.1,p14.1.2.2.2.1]:List Q44),()),())) λr15=>(Option.bind (F10 ((r15.2.1,(),()),p14.2)) λr16=>(some ((p14.1.1,p14.1.2.2.1,((),()),p14.1.2.2.2.2.2.1,p14.1.2.2.2.2.2.2.1,r16.1.1,r16.1.2.1,()),(r16.2.1,()))))) λp17=>(Option.bind (some ((p17.1.1,p17.1.2.1,((),()),((p17.1.2.2.2.2.1&&p17.1.2.2.2.2.2.2.1)&&(!(p17.1.2.2.2.1 == p17.1.2.2.2.2.2.1))),()),p17.2)) λp18=>(cond p18.1.2.2.2.1 (some (false,())) (Option.bind (Option.bind (F10 ((p18.1.1,(),()),p18.2)) λr19=>(some ((p18.1.1,p18.1.2.1,((),()),r19.1.1,r19.1.2.1,()),(r19.2.1,())))) λp20=>(Option.bind (F11 ((([p20.1.1,p20.1.1,p20.1.2.1]:List Q44),()),())) λr21=>(Option.bind (F10 ((r21.2.1,(),()),p20.2)) λr22=>(some ((p20.1.2.2.2.2.1&&((!r22.1.2.1)||(p20.1.2.2.2.1 == r22.1.1))),()))))))))))))))))) (some (true,()))))
noncomputable def O4:Orc:=⟨(.cons (.sl Q0) Q58),[],.b,[],F4⟩
noncomputable def H4:HT:=(.two .leaf (.two .leaf (.two (.join [(.normal,⟨[(0,(.sl Q0)),(1,(.sl Q0)),(5,(.ptr 0 0)),(7,(.own 1)),(8,(.own 2)),(9,(.own 3))],[(0,Q68),(1,Q34),(2,Q34),(3,Q34)],4⟩)] .leaf) (.two (.join [(.normal,⟨[(0,(.sl Q0)),(1,(.sl Q0)),(7,(.own 0)),(8,(.own 1)),(9,(.own 2)),(10,(.fn 10 (.cons (.ptr 3 0) .nil)))],[(0,Q34),(1,Q34),(2,Q34),(3,Q68)],4⟩)] .leaf) (.two (.join [(.normal,⟨[(0,(.sl Q0)),(1,(.sl Q0)),(7,(.sl Q0)),(8,(.sl Q0)),(9,(.own 0)),(10,(.fn 10 (.cons (.ptr 1 0) .nil))),(11,.b),(12,.b)],[(0,Q34),(1,Q68)],2⟩)] .leaf) (.two (.join [(.normal,⟨[(0,(.sl Q0)),(1,(.sl Q0)),(8,(.sl Q0)),(9,(.sl Q0)),(10,(.fn 10 Q19)),(11,.b),(12,.b),(13,.b),(14,.b)],[(0,Q68)],1⟩)] .leaf) (.two (.two (.join [(.normal,⟨[(0,(.sl Q0)),(1,(.sl Q0)),(8,(.sl Q0)),(9,(.sl Q0)),(10,(.fn 10 Q19)),(62,.b)],[(0,Q68)],1⟩)] .leaf) .leaf) (.two (.join [(.normal,⟨[(0,(.sl Q0)),(1,(.sl Q0)),(8,(.sl Q0)),(9,(.sl Q0)),(10,(.fn 10 Q19)),(11,.b),(12,.b)],[(0,Q68)],1⟩)] .leaf) (.two (.join [(.normal,⟨[(0,(.sl Q0)),(8,(.sl Q0)),(10,(.fn 10 Q19)),(11,.b),(12,.b),(13,.b),(14,.b)],[(0,Q68)],1⟩)] .leaf) (.two (.two (.join [(.normal,⟨[(0,(.sl Q0)),(8,(.sl Q0)),(10,(.fn 10 Q19)),(91,.b)],[(0,Q68)],1⟩)] .leaf) .leaf) (.two (.join [(.normal,⟨[(0,(.sl Q0)),(8,(.sl Q0)),(10,(.fn 10 Q19)),(11,.b),(12,.b)],[(0,Q68)],1⟩)] .leaf) .leaf)))))))))))
noncomputable def X4:List (FuncId×Orc):=[(9,O9),(10,O10),(11,O11)]
noncomputable def Z4:List (FuncId×Deed):=[(8,(zOrc O8t))]
theorem run4 (p):evTop Tryz.prog (CX X4 [] Z4 []) (MX X4 []) Tryz.f4 H4 O4 p=F4 p:=by kernel_rfl
theorem ok4:O4.OK Tryz.prog 4:=ok0 run4 Tryz.func4 Tryz.call4 (hX:=⟨ok9,⟨ok10,⟨ok11,trivial⟩⟩⟩) (hZ:=⟨(zOrc_ok ok8t),trivial⟩)
end Go.Qy
namespace Go.Qy
open Go Go.Ev
set_option maxRecDepth 100000
noncomputable def vl (x:SX) (l:List Key):Bool:=(st (gx x) l l.length).getD 0 false
theorem F6_eq (l:List Key) (x:SX) (hl:∀ k∈l,small k) (hb:x.2.2.2.2.2.1.length<=1100000):F6 ((l,x,()),())=some ((if chk l=0 then vl x l else false,chk l,()),()):=by
 have h14:=F14_eq l hl
 by_cases hc:chk l=0
 ·obtain ⟨b1,b2⟩:=both (g:=gx x) hc (rd x) x (λk hk _ _=>F28_eq x k hb (hl k hk)) (λk hk hlf _=>F31_eq x k hb (hl k hk) hlf)
  rw [if_pos hc,hc]
  simp only [F6,h14,oBs,hc,dTr,Bool.not_true,cFf,F16_eq x hb,b1]
  rfl
 ·rw [if_neg hc]
  simp only [F6,h14,oBs,dFf hc,Bool.not_false,cTt]
theorem F10_eq (l:List Key) (x:SX) (hl:∀ k∈l,small k) (hb:x.2.2.2.2.2.1.length<=1100000):F10 ((l,(),()),(x,()))=some ((if chk l=0 then vl x l else false,decide (chk l=0),()),(x,())):=by
 simp only [F10,F6_eq l x hl hb,oBs]
theorem F11_eq (ls:List (List Key)) (h5:ls.length<=5) (h48:∀ l∈ls,l.length<=48):F11 ((ls,()),())=some ((),(ls.flatten,())):=by
 have hF:=FUEL_big
 have hw:=walk_listI (f:=B11_0) (λ(o:List Key) i=>((ls,(),(i:Int),()),(o,()))) ls (λl o=>.inl (o++l)) (λo=>(((),()),(o,()))) (λo i=>o.length<=48*i) (b:=[])
  (λo i l hI hi ha=>by
   have hm:l∈ls:=by have:=ha [];rw [List.getD_eq_getElem?_getD,List.getElem?_eq_getElem hi] at this;simp at this;rw [<- this];exact List.getElem_mem hi
   have hl:=h48 l hm
   have d0:decide ((i:Int)<((ls.length:Nat):Int))=true:=dTt (by omega)
   have d1:decide ((0:Int)<=(i:Int))=true:=dTt (by omega)
   have w1:w64 ((i:Int)+1)=((i+1:Nat):Int):=by rw [w64_id (by omega) (by omega)];rfl
   have b1:bytesOK (o.length+l.length) 96=true:=dTt (by omega)
   refine .inl ⟨_,rfl,by simp;omega,?_⟩
   simp only [B11_0,d0,d1,bAs,cTt,nCt,ha,b1,oBs,w1])
  (λo _=>by
   have d0:decide (((ls.length:Nat):Int)<((ls.length:Nat):Int))=false:=by simp
   simp only [B11_0,d0,cFf]) (by omega) (by simp)
 have hfold:∀ (M:List (List Key)) (o:List Key),foldS (λl o=>(.inl (o++l):List Key⊕((Unit×Unit)×(List Key×Unit)))) (λo=>(((),()),(o,()))) o M=(((),()),(o++M.flatten,())):=by
  intro M
  induction M with
  | nil=>intro o;simp [foldS]
  | cons l M ih=>intro o;simp only [foldS,ih,List.flatten_cons,List.append_assoc]
 rw [hfold] at hw
 have hw':L11_0 ((ls,(),0,()),([],()))=_:=hw
 simp only [F11,hw',oBs,List.nil_append]
theorem stp_frame (g:Key->Bool) (row r:List Bool) (k:Key) (h:tk k.1<=r.length):stp g (row++r) k=row++stp g r k:=by
 have hb:=tk_bd k.1
 have e1:(row++r).length-(tk k.1).toNat=row.length+(r.length-(tk k.1).toNat):=by simp;omega
 have e2:∀ j,(row++r).getD (row.length+j) false=r.getD j false:=λj=>by
  rw [List.getD_eq_getElem?_getD,List.getElem?_append_right (by omega),List.getD_eq_getElem?_getD]
  congr 2
  omega
 unfold stp
 rw [e1,e2,Nat.add_assoc,e2,<- List.append_assoc]
 congr 1
 rw [List.take_append,List.take_of_length_le (by omega)]
 congr 2
 omega
theorem run_frame (g:Key->Bool) (row:List Bool):∀ (l:List Key) (r:List Bool),(∀ i (h:i<l.length),tk l[i].1<=((l.take i).foldl (stp g) r).length)->l.foldl (stp g) (row++r)=row++l.foldl (stp g) r
 | [],r,_=>rfl
 | k::t,r,h=>by
  have h0:=h 0 (by simp)
  simp only [List.getElem_cons_zero,List.take_zero,List.foldl_nil] at h0
  rw [List.foldl_cons,List.foldl_cons,stp_frame g row r k h0]
  exact run_frame g row t (stp g r k) λi hi=>h (i+1) (by simpa using hi)
theorem run_good {x:SX} {l:List Key} (hc:chk l=0) (row:List Bool):l.foldl (stp (gx x)) row=row++[vl x l]:=by
 obtain ⟨G,h1,h0,hl⟩:=good_of_chk (gx x) hc
 have hr:=run_frame (gx x) row l [] λi hi=>(G.room i hi).1
 rw [List.append_nil] at hr
 rw [hr]
 have e:l.foldl (stp (gx x)) []=st (gx x) l l.length:=by unfold st;rw [List.take_length]
 rw [e]
 unfold vl
 obtain ⟨v,hv⟩:=List.length_eq_one_iff.1 h1
 rw [hv]
 rfl
def kOp (op:Int):Key:=((op:Int),((0:UInt8),((0:Int),(([]:List UInt8),(((0:Int),((0:Int),((0:Int),()))),(([]:List UInt8),(([]:List UInt8),())))))))
theorem vl_run (x:SX) (l:List Key) (v:Bool) (h:l.foldl (stp (gx x)) []=[v]):vl x l=v:=by
 unfold vl st
 rw [List.take_length,h]
 rfl
theorem small_op (op:Int):small (kOp op):=⟨by simp [kOp],by simp [kOp],by simp [kOp]⟩
theorem law4 (a b:List Key) (x:SX) (ha:∀ k∈a,small k) (hb:∀ k∈b,small k) (hx:x.2.2.2.2.2.1.length<=1100000):F4 ((a,b,x,()),())=some (true,()):=by
 have h9a:=F9_eq a ha
 have h9b:=F9_eq b hb
 by_cases ca:chk a=0
 ·by_cases cb:chk b=0
  ·obtain ⟨_,_,_,la⟩:=good_of_chk (gx x) ca
   obtain ⟨_,_,_,lb⟩:=good_of_chk (gx x) cb
   have e11:∀ ls:List (List Key),ls.length<=5->(∀ l∈ls,l=a\/l=b\/∃ op,l=[kOp op])->F11 ((ls,()),())=some ((),(ls.flatten,())):=λls h1 h2=>F11_eq ls h1 λl hl=>by
    rcases h2 l hl with rfl | rfl | ⟨op,rfl⟩
    ·exact la
    ·exact lb
    ·simp
   have e10:∀ ls:List (List Key),(∀ l∈ls,l=a\/l=b\/∃ op,l=[kOp op])->F10 ((ls.flatten,(),()),(x,()))=some ((if chk ls.flatten=0 then vl x ls.flatten else false,decide (chk ls.flatten=0),()),(x,())):=λls h=>F10_eq _ x (λk hk=>by
    obtain ⟨l,hl,hk⟩:=List.mem_flatten.1 hk
    rcases h l hl with rfl | rfl | ⟨op,rfl⟩
    ·exact ha k hk
    ·exact hb k hk
    ·rw [List.mem_singleton.1 hk];exact small_op op) hx
   have m1:∀ l∈[a,b,[kOp 15],[kOp 14]],l=a\/l=b\/∃ op,l=[kOp op]:=by
    intro l hl
    simp only [List.mem_cons,List.not_mem_nil,or_false] at hl
    rcases hl with rfl | rfl | rfl | rfl
    ·exact .inl rfl
    ·exact .inr (.inl rfl)
    ·exact .inr (.inr ⟨_,rfl⟩)
    ·exact .inr (.inr ⟨_,rfl⟩)
   have m2:∀ l∈[a,[kOp 14],b,[kOp 14],[kOp 16]],l=a\/l=b\/∃ op,l=[kOp op]:=by
    intro l hl
    simp only [List.mem_cons,List.not_mem_nil,or_false] at hl
    rcases hl with rfl | rfl | rfl | rfl | rfl
    ·exact .inl rfl
    ·exact .inr (.inr ⟨_,rfl⟩)
    ·exact .inr (.inl rfl)
    ·exact .inr (.inr ⟨_,rfl⟩)
    ·exact .inr (.inr ⟨_,rfl⟩)
   have m3:∀ l∈[a,b,[kOp 16]],l=a\/l=b\/∃ op,l=[kOp op]:=by
    intro l hl
    simp only [List.mem_cons,List.not_mem_nil,or_false] at hl
    rcases hl with rfl | rfl | rfl
    ·exact .inl rfl
    ·exact .inr (.inl rfl)
    ·exact .inr (.inr ⟨_,rfl⟩)
   have m4:∀ l∈[b,a,[kOp 16]],l=a\/l=b\/∃ op,l=[kOp op]:=by
    intro l hl
    simp only [List.mem_cons,List.not_mem_nil,or_false] at hl
    rcases hl with rfl | rfl | rfl
    ·exact .inr (.inl rfl)
    ·exact .inl rfl
    ·exact .inr (.inr ⟨_,rfl⟩)
   have m5:∀ l∈[a,a,[kOp 15]],l=a\/l=b\/∃ op,l=[kOp op]:=by
    intro l hl
    simp only [List.mem_cons,List.not_mem_nil,or_false] at hl
    rcases hl with rfl | rfl | rfl
    ·exact .inl rfl
    ·exact .inl rfl
    ·exact .inr (.inr ⟨_,rfl⟩)
   have v1:vl x [a,b,[kOp 15],[kOp 14]].flatten=!(vl x a||vl x b):=vl_run x _ _ (by
    simp only [List.flatten_cons,List.flatten_nil,List.append_nil,List.foldl_append,run_good ca,run_good cb]
    simp [stp,kOp,tk])
   have v2:vl x [a,[kOp 14],b,[kOp 14],[kOp 16]].flatten=(!vl x a&&!vl x b):=vl_run x _ _ (by
    simp only [List.flatten_cons,List.flatten_nil,List.append_nil,List.foldl_append,run_good ca,run_good cb,List.foldl_cons,List.foldl_nil]
    simp [stp,kOp,tk,run_good cb])
   have v3:vl x [a,b,[kOp 16]].flatten=(vl x a&&vl x b):=vl_run x _ _ (by
    simp only [List.flatten_cons,List.flatten_nil,List.append_nil,List.foldl_append,run_good ca,run_good cb]
    simp [stp,kOp,tk])
   have v4:vl x [b,a,[kOp 16]].flatten=(vl x b&&vl x a):=vl_run x _ _ (by
    simp only [List.flatten_cons,List.flatten_nil,List.append_nil,List.foldl_append,run_good ca,run_good cb]
    simp [stp,kOp,tk])
   have v5:vl x [a,a,[kOp 15]].flatten=(vl x a||vl x a):=vl_run x _ _ (by
    simp only [List.flatten_cons,List.flatten_nil,List.append_nil,List.foldl_append,run_good ca,run_good cb]
    simp [stp,kOp,tk])
   have t1:=e10 _ m1
   have t2:=e10 _ m2
   have t3:=e10 _ m3
   have t4:=e10 _ m4
   have t5:=e10 _ m5
   rw [v1] at t1
   rw [v2] at t2
   rw [v3] at t3
   rw [v4] at t4
   rw [v5] at t5
   have u1:=e11 _ (by simp) m1
   have u2:=e11 _ (by simp) m2
   have u3:=e11 _ (by simp) m3
   have u4:=e11 _ (by simp) m4
   have u5:=e11 _ (by simp) m5
   generalize chk [a,b,[kOp 15],[kOp 14]].flatten=c1 at t1
   generalize chk [a,[kOp 14],b,[kOp 14],[kOp 16]].flatten=c2 at t2
   generalize chk [a,b,[kOp 16]].flatten=c3 at t3
   generalize chk [b,a,[kOp 16]].flatten=c4 at t4
   generalize chk [a,a,[kOp 15]].flatten=c5 at t5
   generalize [a,b,[kOp 15],[kOp 14]].flatten=l1 at t1 u1
   generalize [a,[kOp 14],b,[kOp 14],[kOp 16]].flatten=l2 at t2 u2
   generalize [a,b,[kOp 16]].flatten=l3 at t3 u3
   generalize [b,a,[kOp 16]].flatten=l4 at t4 u4
   generalize [a,a,[kOp 15]].flatten=l5 at t5 u5
   have ta:=F10_eq a x ha hx
   rw [if_pos ca,ca] at ta
   unfold kOp at u1 u2 u3 u4 u5
   simp only [F4,h9a,h9b,ca,cb,dTr,Bool.not_true,Bool.not_false,cTt,cFf,oBs,u1,u2,u3,u4,u5,t1,t2,t3,t4,t5,ta]
   cases vl x a <;> cases vl x b <;> by_cases q1:c1=0 <;> by_cases q2:c2=0 <;> by_cases q3:c3=0 <;> by_cases q4:c4=0 <;> by_cases q5:c5=0 <;> simp [q1,q2,q3,q4,q5]
  ·simp only [F4,h9a,h9b,ca,dTr,Bool.not_true,Bool.not_false,cTt,oBs,dFf cb]
 ·simp only [F4,h9a,oBs,dFf ca,Bool.not_false,Bool.not_true,cFf]
theorem law4' (a b:List Key) (x:ST.den) (ha:sizD (.sl KT) a<=1100000) (hb:sizD (.sl KT) b<=1100000) (hx:sizD ST x<=1100000) :
  F4 ((a,b,(x.1,x.2.1,x.2.2.1,x.2.2.2.1.1,x.2.2.2.1.2.1,x.2.2.2.1.2.2.1,()),()),())=some (true,()) :=
 law4 a b _ (small_of ha) (small_of hb) (small_x hx)
end Go.Qy
