/- Texts that the last one leans on, 11. -/
import Derived.Test.YtijhleakepbahaaGreatDoorZJ
namespace Go.Qy
open Go Go.Ev
set_option maxRecDepth 100000
def allP:Nat->List UInt8->Bool
 | 0,_=>true
 | k+1,r=>if r=[] then true else Go.Qw.pln (Lib.decodeL r).1 (Lib.decodeL r).2&&allP k (r.drop (Lib.decodeL r).2)
theorem quoF_err:∀ (k:Nat) (r:List UInt8) (place:Nat) (out:List UInt8),(Go.Qw.quoF k r place out).2.2=if allP k r=true then 0 else 4
 | 0,r,place,out=>rfl
 | k+1,r,place,out=>by
  unfold Go.Qw.quoF allP
  by_cases h:r=[]
  ·rw [if_pos h,if_pos h];rfl
  ·rw [if_neg h,if_neg h]
   cases hp:Go.Qw.pln (Lib.decodeL r).1 (Lib.decodeL r).2
   ·simp
   ·rw [if_pos rfl,quoF_err k,Bool.true_and]
def qok (s:List UInt8):Bool:=decide (s.length<=1024)&&allP s.length s
theorem quo_err (s:List UInt8):decide ((Go.Qw.quo s).2.2=0)=qok s:=by
 unfold Go.Qw.quo qok
 by_cases h:1024<s.length
 ·rw [if_pos h]
  have:¬ s.length<=1024:=by omega
  simp [this]
 ·rw [if_neg h]
  have h':s.length<=1024:=by omega
  rw [quoF_err]
  cases allP s.length s <;> simp [h']
theorem F45_eq (s:List UInt8):F45 ((s,()),())=some (qok s,()):=by
 unfold F45
 rw [quo_err]
noncomputable def pl (x:List UInt8):Bool:=match F122 ((x,()),()) with
 | some (b,_)=>b
 | none=>false
theorem lets_plain:∀ (n:Nat) (r:List UInt8),r.length<=n->r.length<=8000000 ->
  (∀ x∈Go.Qb.lets n r,F122 ((x,()),())=some (pl x,())/\x.length<=4)/\(Go.Qb.lets n r).all pl=allP n r
 | 0,r,_,_=>⟨λx hx=>by simp [Go.Qb.lets] at hx,rfl⟩
 | n+1,r,hn,hr=>by
  unfold Go.Qb.lets allP
  by_cases h:r=[]
  ·rw [if_pos h,if_pos h]
   exact ⟨λx hx=>by simp at hx,rfl⟩
  ·rw [if_neg h,if_neg h]
   have hw:=Go.Qb.wid_eq h
   obtain ⟨w1,w2,w3⟩:=Go.Qb.wid_pos h
   rw [hw] at w1 w2 w3 ⊢
   have hp:=Go.Qu.F122_eq r h hr
   have hpl:pl (r.take (Lib.decodeL r).2)=Go.Qw.pln (Lib.decodeL r).1 (Lib.decodeL r).2:=by
    unfold pl
    rw [hp]
    rfl
   obtain ⟨h1,h2⟩:=lets_plain n (r.drop (Lib.decodeL r).2) (by simp;omega) (by simp;omega)
   refine ⟨λx hx=>?_,?_⟩
   ·rcases List.mem_cons.mp hx with rfl | hx
    ·exact ⟨by rw [hp,hpl];rfl,by simp;omega⟩
    ·exact h1 x hx
   ·rw [List.all_cons,h2,hpl]
theorem F76_err (s:List UInt8) (hs:s.length<=1100000):∃ o p,F76 ((s,()),())=some ((o,p,if qok s=true then 0 else if 1024<s.length then 6 else 4,()),()):=by
 unfold F76
 by_cases h:1024<s.length
 ·have h1:decide ((1024:Int)<((s.length:Nat):Int))=true:=dTt (by omega)
  have h2:qok s=false:=by unfold qok;simp;omega
  simp only [h1,cTt]
  exact ⟨[],0,by rw [h2];simp [h]⟩
 ·have h1:decide ((1024:Int)<((s.length:Nat):Int))=false:=dFf (by omega)
  have h2:qok s=allP s.length s:=by unfold qok;simp;omega
  simp only [h1,cFf,Go.Qb.F97_eq hs,oBs]
  obtain ⟨hx,hall⟩:=lets_plain s.length s (Nat.le_refl _) (by omega)
  have hL:(Go.Qb.lets s.length s).length<=s.length:=Go.Qb.lets_len s.length s
  generalize Go.Qb.lets s.length s=L at hx hall hL
  have hF:=FUEL_big
  have hw:=walk_listI (f:=B76_0) (λ(b:List UInt8×Nat) i=>(((),b.1,(i:Int),()),(L,()))) L
   (λa b=>if pl a=true then .inl ((if a=[34]\/a=[92] then b.1++[92] else b.1)++a,b.2+1) else .inr (.inr (((),(b.2:Int),(),()),())))
   (λb=>.inl ((b.1,()),())) (λb i=>b.1.length<=1+5*i/\b.2=i) (b:=([34],0))
   (λb i a hI hi ha=>by
    obtain ⟨hI1,hI2⟩:=hI
    obtain ⟨f1,f2⟩:=hx a (by have:=ha [];rw [List.getD_eq_getElem?_getD,List.getElem?_eq_getElem hi] at this;simp at this;rw [<- this];exact List.getElem_mem hi)
    have d0:decide ((i:Int)<((L.length:Nat):Int))=true:=dTt (by omega)
    have d1:decide ((0:Int)<=(i:Int))=true:=dTt (by omega)
    have g1:L.getD (Int.toNat (i:Int)) []=a:=by rw [nCt];exact ha []
    have w1:w64 ((i:Int)+1)=((i+1:Nat):Int):=by rw [w64_id (by omega) (by omega)];rfl
    have b1:fits (b.1.length+([92]:List UInt8).length)=true:=dTt (by simp;omega)
    have b2:fits (b.1.length+a.length)=true:=dTt (by omega)
    have b3:fits ((b.1++[92]).length+a.length)=true:=dTt (by simp;omega)
    cases hpl:pl a
    ·right
     refine ⟨_,if_neg (by simp),?_⟩
     simp only [B76_0,d0,d1,bAs,cTt,g1,f1,hpl,oBs,Bool.not_false,hI2]
    ·left
     refine ⟨_,if_pos rfl,⟨?_,by simp [hI2]⟩,?_⟩
     ·by_cases hq:a=[34]\/a=[92]
      ·simp [if_pos hq];omega
      ·simp [if_neg hq];omega
     ·by_cases hq:a=[34]\/a=[92]
      ·have hq':(decide (a=[34])||decide (a=[92]))=true:=by simpa using hq
       simp only [B76_0,d0,d1,bAs,cTt,g1,f1,hpl,oBs,Bool.not_true,cFf,Bool.true_or,hq',b1,b3,w1,if_pos hq]
      ·have hq':(decide (a=[34])||decide (a=[92]))=false:=by simpa using hq
       simp only [B76_0,d0,d1,bAs,cTt,g1,f1,hpl,oBs,Bool.not_true,cFf,Bool.true_or,hq',b2,w1,if_neg hq])
   (λb _=>by
    have d0:decide (((L.length:Nat):Int)<((L.length:Nat):Int))=false:=by simp
    simp only [B76_0,d0,cFf])
   (by omega) ⟨by simp,rfl⟩
  have hw':L76_0 (((),[34],0,()),(L,()))=_:=hw
  rw [hw']
  have hfold:∀ (M:List (List UInt8)) (b:List UInt8×Nat),b.1.length<=1+5*b.2->b.2+M.length<=1100000->(∀ x∈M,x.length<=4) ->
    (M.all pl=true->∃ b':List UInt8×Nat,b'.1.length<=6000000/\foldS (λa b=>if pl a=true then .inl ((if a=[34]\/a=[92] then b.1++[92] else b.1)++a,b.2+1) else .inr (.inr (((),(b.2:Int),(),()),())))
     (λb:List UInt8×Nat=>(.inl ((b.1,()),()):((List UInt8×Unit)×Unit)⊕((Unit×Int×Unit×Unit)×Unit))) b M=.inl ((b'.1,()),())) /\
    (M.all pl=false->∃ p:Int,foldS (λa b=>if pl a=true then .inl ((if a=[34]\/a=[92] then b.1++[92] else b.1)++a,b.2+1) else .inr (.inr (((),(b.2:Int),(),()),())))
     (λb:List UInt8×Nat=>(.inl ((b.1,()),()):((List UInt8×Unit)×Unit)⊕((Unit×Int×Unit×Unit)×Unit))) b M=.inr (((),p,(),()),())):=by
   intro M
   induction M with
   | nil=>exact λb h1 h2 _=>⟨λ_=>⟨b,by simp at h2;omega,rfl⟩,λh=>by simp at h⟩
   | cons a M ih =>
    intro b h1 h2 h3
    simp only [List.length_cons] at h2
    have ha:=h3 a (by simp)
    have:=ih ((if a=[34]\/a=[92] then b.1++[92] else b.1)++a,b.2+1) (by
     by_cases hq:a=[34]\/a=[92]
     ·simp [if_pos hq];omega
     ·simp [if_neg hq];omega) (by simp only;omega) (λx hx=>h3 x (by simp [hx]))
    cases hpl:pl a
    ·refine ⟨λh=>by simp [hpl] at h,λ_=>⟨(b.2:Int),?_⟩⟩
     simp only [foldS,hpl,Bool.false_eq_true,if_false]
    ·simp only [List.all_cons,hpl,Bool.true_and]
     simp only [foldS,hpl,if_true]
     exact this
  obtain ⟨q1,q2⟩:=hfold L ([34],0) (by simp) (by simp only;omega) λx hx'=>(hx x hx').2
  rw [h2,<- hall]
  cases hA:L.all pl
  ·obtain ⟨p,hp⟩:=q2 hA
   rw [hp]
   exact ⟨[],p,by simp [h]⟩
  ·obtain ⟨b',hb,hp⟩:=q1 hA
   rw [hp]
   have b1:fits (b'.1.length+([34]:List UInt8).length)=true:=dTt (by simp;omega)
   simp only [oBs,b1,cTt]
   exact ⟨b'.1++[34],0,by simp⟩
theorem F38_eq (s:List UInt8) (hs:s.length<=1100000):F38 ((s,()),())=some (qok s,()):=by
 obtain ⟨o,p,h⟩:=F76_err s hs
 unfold F38
 rw [h]
 simp only [oBs]
 cases qok s
 ·by_cases h':1024<s.length <;> simp [h']
 ·simp
end Go.Qy
namespace Go.Qy
open Go Go.Ev
set_option maxRecDepth 100000
theorem loop_two {σ τ:Type} {f:σ->Option (σ⊕τ)} {p q:σ} {r:τ} (h1:f p=some (.inl q)) (h2:f q=some (.inr r)):loopOf f p=some r:=by
 obtain ⟨k,hk⟩:∃ k,FUEL=k+2:=⟨FUEL-2,by unfold FUEL;omega⟩
 show iter f FUEL p=_
 rw [hk]
 simp only [iter,h1,h2]
theorem F127_nil:F127 ((([]:List UInt8),()),())=some (0,()):=by kernel_rfl
theorem F128_one:F128 (((),()),((([32]:List UInt8),()),()))=some ([32],(([],()),())):=by kernel_rfl
theorem L80_one (N:List UInt8) (ln:Int) (hN:N.length<=2000000):L80_0 ((N,ln,true,(),((),()),()),((([32]:List UInt8),()),()))=some ((N++[32],()),()):=by
 have e0:decide (([32]:List UInt8)=[])=false:=by decide
 have b3:fits (N.length+([32]:List UInt8).length)=true:=dTt (by simp;omega)
 have h1:B80_0 ((N,ln,true,(),((),()),()),((([32]:List UInt8),()),()))=some (.inl ((N++[32],w64 (ln+((([32]:List UInt8).length:Nat):Int)),false,(),((),()),()),(([],()),()))):=by
  simp only [B80_0,e0,Bool.not_false,cTt,F128_one,oBs,Bool.not_true,Bool.and_false,cFf,b3]
 have h2:B80_0 ((N++[32],w64 (ln+((([32]:List UInt8).length:Nat):Int)),false,(),((),()),()),((([]:List UInt8),()),()))=some (.inr ((N++[32],()),())):=by
  simp only [B80_0,dTr,Bool.not_true,cFf]
 unfold L80_0
 exact loop_two h1 h2
theorem F80_nil (n:List UInt8) (hn:n.length<=1100000):∃ o,F80 ((n,[],()),())=some ((o,if Go.Qh.rn n=true then 0 else 4,()),()):=by
 unfold F80
 simp only [Go.Qh.F56_eq n (by omega),oBs]
 cases h:Go.Qh.rn n
 ·exact ⟨[],rfl⟩
 ·have b1:fits (n.length+([58]:List UInt8).length)=true:=dTt (by simp;omega)
  have b2:fits (([32]:List UInt8).length+([]:List UInt8).length)=true:=dTt (by simp)
  have b3:fits ((n++[58]).length+([32]:List UInt8).length)=true:=dTt (by simp;omega)
  have b4:fits ((n++[58]++[32]).length+([13,10]:List UInt8).length)=true:=dTt (by simp;omega)
  have hL:L80_0 (((n++[58]),(((n++[58]).length:Nat):Int),true,(),((),()),()),((([32]++[]),()),()))=some ((n++[58]++[32],()),()):=L80_one (n++[58]) _ (by simp;omega)
  simp only [Bool.not_true,cFf,F127_nil,oBs,dTr,b1,b2,cTt,hL,b4]
  exact ⟨_,rfl⟩
theorem F44_eq (n:List UInt8) (hn:n.length<=1100000):F44 ((n,()),())=some (Go.Qh.rn n&&Go.Qh.atom n,()):=by
 obtain ⟨o,h⟩:=F80_nil n hn
 unfold F44
 rw [h]
 simp only [oBs]
 cases Go.Qh.rn n
 ·rfl
 ·simp only [if_true,dTr,cTt,Go.Qh.F81_eq n hn,oBs,Bool.true_and]
def setOK (s:List UInt8):Bool:=decide ((Go.Qb.set s 1).2.2.1=0)
theorem F42_eq (s:List UInt8) (hs:s.length<=1100000):F42 ((s,()),())=some (setOK s,()):=by
 unfold F42
 rw [Go.Qb.F5_set s 1 hs]
 rfl
theorem F36_eq (s:List UInt8) (hs:s.length<=1100000):F36 ((s,()),())=some (setOK s,()):=by
 unfold F36
 rw [Go.Qb.F6_set s 1 hs]
 rfl
open Classical in
noncomputable def vd (y m d:Int):Bool:=decide (Go.Qd.Valid y m d)
theorem F37_vd (y m d:Int):F37 (((y,m,d,()),()),())=some (vd y m d,()):=by
 obtain ⟨b,h1,h2⟩:=Go.Qd.F37_eq (y:=y) (m:=m) (d:=d)
 rw [h1]
 have:b=vd y m d:=by
  rw [Bool.eq_iff_iff,h2]
  unfold vd
  simp
 rw [this]
theorem F43_vd (y m d:Int):∃ n,F43 (((y,m,d,()),()),())=some ((n,if vd y m d=true then 0 else 2,()),()):=by
 rcases Go.Qd.days y m d with ⟨h,h1,_⟩ | ⟨h,h1,_⟩
 ·have:vd y m d=true:=by unfold vd;simpa using h
  exact ⟨_,by rw [h1,this];rfl⟩
 ·have:vd y m d=false:=by unfold vd;simpa using h
  exact ⟨_,by rw [h1,this];rfl⟩
def flg (fl:UInt8):Bool:=decide (fl=1)||decide (fl=2)||decide (fl=4)||decide (fl=8)||decide (fl=16)
theorem flg_eq (fl:UInt8):(decide ((UInt8.toNat (0:UInt8))<(UInt8.toNat fl))&&decide ((UInt8.toNat fl)<(UInt8.toNat (32:UInt8)))&&decide ((fl &&& (fl-1))=0))=flg fl:=by
 have h:∀ i:Fin 256,(decide ((UInt8.toNat (0:UInt8))<(UInt8.toNat (UInt8.ofNat i.val)))&&decide ((UInt8.toNat (UInt8.ofNat i.val))<(UInt8.toNat (32:UInt8)))&&decide (((UInt8.ofNat i.val) &&& ((UInt8.ofNat i.val)-1))=0))=flg (UInt8.ofNat i.val):=by decide
 have:=h ⟨fl.toNat,fl.toNat_lt⟩
 simpa using this
noncomputable def lf (op:Int) (fl:UInt8) (n:Int) (st:List UInt8) (y m d:Int) (nm tx:List UInt8):Bool :=
 (if op=2\/op=3 then flg fl else decide (fl=0)) &&
 ((if op=4\/op=5 then decide (0<=n)&&decide (n<=4294967295) else decide (n=0)) &&
 ((if op=6\/op=7 then setOK st else decide (st=[])) &&
 ((if op=8\/op=9\/op=10 then vd y m d else decide (y=0)&&(decide (m=0)&&decide (d=0))) &&
 ((if op=11 then Go.Qh.rn nm&&Go.Qh.atom nm else decide (nm=[])) &&
 (if op=11\/op=12\/op=13 then qok tx else decide (tx=[]))))))
theorem F26_eq (op:Int) (fl:UInt8) (n:Int) (st:List UInt8) (y m d:Int) (nm tx:List UInt8) (h1:st.length<=1100000) (h2:nm.length<=1100000) (_h3:tx.length<=1100000) :
  F26 (((op,fl,n,st,y,m,d,nm,tx,()),()),())=some (lf op fl n st y m d nm tx,()):=by
 obtain ⟨dn,hd⟩:=F43_vd y m d
 have z:∀ x:UInt8,decide ((0:UInt8)=x)=decide (x=0):=λx=>decide_eq_decide.mpr eq_comm
 have zi:∀ x:Int,decide ((0:Int)=x)=decide (x=0):=λx=>decide_eq_decide.mpr eq_comm
 have zl:∀ x:List UInt8,decide (([]:List UInt8)=x)=decide (x=[]):=λx=>decide_eq_decide.mpr eq_comm
 have hfl:(decide (0<fl.toNat)&&decide (fl.toNat<32)&&decide (fl &&& fl-1=0))=flg fl:=by
  have:=flg_eq fl
  simpa using this
 rcases (by omega:op=2\/op=3\/op=4\/op=5\/op=6\/op=7\/op=8\/op=9\/op=10\/op=11\/op=12\/op=13\/(op≠2/\op≠3/\op≠4/\op≠5/\op≠6/\op≠7/\op≠8/\op≠9/\op≠10/\op≠11/\op≠12/\op≠13)) with rfl | rfl | rfl | rfl | rfl | rfl | rfl | rfl | rfl | rfl | rfl | rfl | ⟨a1,a2,a3,a4,a5,a6,a7,a8,a9,a10,a11,a12⟩
 ·simp [F26,zi,lf,<- hfl]
 ·simp [F26,zi,lf,<- hfl]
 ·simp [F26,z,zi,lf];ac_rfl
 ·simp [F26,z,zi,lf];ac_rfl
 ·simp [F26,z,zi,lf,F42_eq st h1];ac_rfl
 ·simp [F26,z,zi,lf,F42_eq st h1];ac_rfl
 ·simp [F26,z,zi,lf,hd];ac_rfl
 ·simp [F26,z,zi,lf,hd];ac_rfl
 ·simp [F26,z,zi,lf,hd];ac_rfl
 ·simp [F26,lf,F44_eq nm h2,F45_eq]
  cases Go.Qh.rn nm <;> cases Go.Qh.atom nm <;> simp [z,zi]
  ac_rfl
 ·simp [F26,z,zi,lf,F45_eq];ac_rfl
 ·simp [F26,z,zi,lf,F45_eq];ac_rfl
 ·simp [F26,z,zi,lf,a1,a2,a3,a4,a5,a6,a7,a8,a9,a10,a11,a12]
theorem F20_eq (op:Int) (fl:UInt8) (n:Int) (st:List UInt8) (y m d:Int) (nm tx:List UInt8) (h1:st.length<=1100000) (h2:nm.length<=1100000) (h3:tx.length<=1100000) :
  F20 (((op,fl,n,st,y,m,d,nm,tx,()),()),())=some (lf op fl n st y m d nm tx,()):=by
 have e1:decide (0<st.length)=!decide (st=[]):=by cases st <;> simp
 have e2:decide (0<tx.length)=!decide (tx=[]):=by cases tx <;> simp
 have hn:(decide (n<0)||decide (4294967295<n))=!(decide (0<=n)&&decide (n<=4294967295)):=by
  rw [Bool.eq_iff_iff];simp
 have c1:∀ a b:Bool,cond a (some (false,())) (some (b,()))=some (!a&&b,()):=λa b=>by cases a <;> rfl
 have c2:∀ a b:Bool,cond a (some (b,())) (some (false,()))=some (a&&b,()):=λa b=>by cases a <;> rfl
 rcases (by omega:op=2\/op=3\/op=4\/op=5\/op=6\/op=7\/op=8\/op=9\/op=10\/op=11\/op=12\/op=13\/(op≠2/\op≠3/\op≠4/\op≠5/\op≠6/\op≠7/\op≠8/\op≠9/\op≠10/\op≠11/\op≠12/\op≠13)) with rfl | rfl | rfl | rfl | rfl | rfl | rfl | rfl | rfl | rfl | rfl | rfl | ⟨a1,a2,a3,a4,a5,a6,a7,a8,a9,a10,a11,a12⟩
 ·simp [F20,lf,e1,e2,flg,c1] <;> ac_rfl
 ·simp [F20,lf,e1,e2,flg,c1] <;> ac_rfl
 ·simp [F20,lf,e1,e2,hn,c1] <;> ac_rfl
 ·simp [F20,lf,e1,e2,hn,c1] <;> ac_rfl
 ·simp [F20,lf,e1,e2,F36_eq st h1,c1] <;> ac_rfl
 ·simp [F20,lf,e1,e2,F36_eq st h1,c1] <;> ac_rfl
 ·simp [F20,lf,e1,e2,F37_vd,c1] <;> ac_rfl
 ·simp [F20,lf,e1,e2,F37_vd,c1] <;> ac_rfl
 ·simp [F20,lf,e1,e2,F37_vd,c1] <;> ac_rfl
 ·simp [F20,lf,e1,e2,F38_eq tx h3,Go.Qh.F39_eq nm (by omega),Go.Qh.F40_eq nm h2,c1,c2] <;> ac_rfl
 ·simp [F20,lf,e1,e2,F38_eq tx h3,c1] <;> ac_rfl
 ·simp [F20,lf,e1,e2,F38_eq tx h3,c1] <;> ac_rfl
 ·simp [F20,lf,e1,e2,a1,a2,a3,a4,a5,a6,a7,a8,a9,a10,a11,a12,c1] <;> ac_rfl
end Go.Qy
namespace Go.Qy
open Go Go.Ev
set_option maxRecDepth 100000
abbrev Key:Type:=Int×(UInt8×(Int×((List UInt8)×((Int×(Int×(Int×Unit)))×((List UInt8)×((List UInt8)×Unit))))))
noncomputable def lfK (k:Key):Bool:=lf k.1 k.2.1 k.2.2.1 k.2.2.2.1 k.2.2.2.2.1.1 k.2.2.2.2.1.2.1 k.2.2.2.2.1.2.2.1 k.2.2.2.2.2.1 k.2.2.2.2.2.2.1
def small (k:Key):Prop:=k.2.2.2.1.length<=1100000/\k.2.2.2.2.2.1.length<=1100000/\k.2.2.2.2.2.2.1.length<=1100000
def tk (op:Int):Int:=if op=14 then 1 else if op=15\/op=16 then 2 else 0
theorem tk_bd (op:Int):0<=tk op/\tk op<=2:=by
 unfold tk
 split
 ·omega
 ·split <;> omega
theorem F27_eq (op:Int):F27 ((op,()),())=some (tk op,()):=by
 unfold tk
 by_cases h1:op=14
 ·subst h1;rfl
 ·by_cases h2:op=15
  ·subst h2;rfl
  ·by_cases h3:op=16
   ·subst h3;rfl
   ·simp [F27,h1,h2,h3]
theorem F21_eq (op:Int):F21 ((op,()),())=some (tk op,()):=by
 unfold tk F21
 by_cases h1:op=14
 ·subst h1;rfl
 ·by_cases h2:op=15
  ·subst h2;rfl
  ·by_cases h3:op=16
   ·subst h3;rfl
   ·simp [h1,h2,h3]
noncomputable def chkS (k:Key) (n:Int):Int⊕Int :=
 if k.1<1\/16<k.1 then .inr 14
 else if lfK k=false then .inr 4
 else if n<tk k.1 then .inr 2
 else if 8<n+1-tk k.1 then .inr 6
 else .inl (n+1-tk k.1)
noncomputable def chkL:Int->List Key->Int⊕Int
 | n,[]=>.inl n
 | n,k::t=>match chkS k n with
  | .inl m=>chkL m t
  | .inr e=>.inr e
noncomputable def chk (l:List Key):Int :=
 if l.length=0 then 2
 else if 48<l.length then 6
 else match chkL 0 l with
  | .inl n=>if n=1 then 0 else 2
  | .inr e=>e
theorem F14_eq (l:List Key) (hl:∀ k∈l,small k):F14 ((l,()),())=some (chk l,()):=by
 unfold F14 chk
 by_cases h0:l.length=0
 ·have d0:decide (((l.length:Nat):Int)=0)=true:=dTt (by omega)
  simp only [d0,cTt,if_pos h0]
 have d0:decide (((l.length:Nat):Int)=0)=false:=dFf (by omega)
 by_cases h48:48<l.length
 ·have d1:decide ((48:Int)<((l.length:Nat):Int))=true:=dTt (by omega)
  simp only [d0,cFf,d1,cTt,if_neg h0,if_pos h48]
 have d1:decide ((48:Int)<((l.length:Nat):Int))=false:=dFf (by omega)
 have hF:=FUEL_big
 have hw:=walk_listI (f:=B14_0) (λ(n:Int) i=>((n,l,((l.length:Nat):Int),(i:Int),()),())) l
  (λk n=>match chkS k n with | .inl m=>.inl m | .inr e=>.inr (.inr ((e,()),())))
  (λn=>.inl ((n,()),())) (λn i=>0<=n/\n<=8) (b:=0)
  (λn i k hI hi ha=>by
   have hk:=hl k (by have:=ha k;rw [List.getD_eq_getElem?_getD,List.getElem?_eq_getElem hi] at this;simp at this;rw [<- this];exact List.getElem_mem hi)
   have e0:decide ((i:Int)<((l.length:Nat):Int))=true:=dTt (by omega)
   have e1:decide ((0:Int)<=(i:Int))=true:=dTt (by omega)
   have w1:w64 ((i:Int)+1)=((i+1:Nat):Int):=by rw [w64_id (by omega) (by omega)];rfl
   obtain ⟨t1,t2⟩:=tk_bd k.1
   have w2:w64 (n+w64 (1-tk k.1))=n+1-tk k.1:=by
    rw [w64_id (n:=1-tk k.1) (by omega) (by omega),w64_id (by omega) (by omega)];omega
   have f26:F26 (((k.1,k.2.1,k.2.2.1,k.2.2.2.1,k.2.2.2.2.1.1,k.2.2.2.2.1.2.1,k.2.2.2.2.1.2.2.1,k.2.2.2.2.2.1,k.2.2.2.2.2.2.1,()),()),())=some (lfK k,()) :=
    F26_eq _ _ _ _ _ _ _ _ _ hk.1 hk.2.1 hk.2.2
   unfold chkS
   by_cases c1:k.1<1\/16<k.1
   ·right
    have c1':(decide (k.1<1)||decide (16<k.1))=true:=by simpa using c1
    rw [if_pos c1]
    exact ⟨_,rfl,by simp only [B14_0,e0,e1,bAs,cTt,nCt,ha,oBs,c1']⟩
   have c1':(decide (k.1<1)||decide (16<k.1))=false:=by simpa using c1
   rw [if_neg c1]
   cases c2:lfK k
   ·right
    rw [if_pos rfl]
    exact ⟨_,rfl,by simp only [B14_0,e0,e1,bAs,cTt,cFf,nCt,ha,oBs,c1',f26,c2,Bool.not_false]⟩
   rw [if_neg (by simp)]
   by_cases c3:n<tk k.1
   ·right
    rw [if_pos c3]
    exact ⟨_,rfl,by simp only [B14_0,e0,e1,bAs,cTt,cFf,nCt,ha,oBs,c1',f26,c2,Bool.not_true,F27_eq,dTt c3]⟩
   rw [if_neg c3]
   by_cases c4:8<n+1-tk k.1
   ·right
    rw [if_pos c4]
    exact ⟨_,rfl,by simp only [B14_0,e0,e1,bAs,cTt,cFf,nCt,ha,oBs,c1',f26,c2,Bool.not_true,F27_eq,dFf c3,w2,dTt c4]⟩
   ·left
    rw [if_neg c4]
    exact ⟨_,rfl,⟨by omega,by omega⟩,by simp only [B14_0,e0,e1,bAs,cTt,cFf,nCt,ha,oBs,c1',f26,c2,Bool.not_true,F27_eq,dFf c3,w2,dFf c4,w1]⟩)
  (λn _=>by
   have e0:decide (((l.length:Nat):Int)<((l.length:Nat):Int))=false:=by simp
   simp only [B14_0,e0,cFf])
  (by omega) ⟨by omega,by omega⟩
 have hw':L14_0 ((0,l,((l.length:Nat):Int),0,()),())=_:=hw
 simp only [d0,cFf,d1,hw',oBs,if_neg h0,if_neg h48]
 have hfold:∀ (M:List Key) (n:Int),foldS (λk (n:Int)=>match chkS k n with | .inl m=>.inl m | .inr e=>.inr (.inr ((e,()),()))) (λn=>(.inl ((n,()),()):((Int×Unit)×Unit)⊕((Int×Unit)×Unit))) n M =
   (match chkL n M with | .inl m=>.inl ((m,()),()) | .inr e=>.inr ((e,()),())):=by
  intro M
  induction M with
  | nil=>intro n;rfl
  | cons k M ih =>
   intro n
   simp only [foldS,chkL]
   cases chkS k n with
   | inl m=>exact ih m
   | inr e=>rfl
 rw [hfold]
 cases chkL 0 l with
 | inl n =>
  simp only
  by_cases hn:n=1
  ·simp [hn]
  ·simp [hn]
 | inr e=>rfl
theorem F9_eq (l:List Key) (hl:∀ k∈l,small k):F9 ((l,()),())=some (chk l,()):=by
 unfold F9 chk
 by_cases h0:l.length=0
 ·have d0:decide (((l.length:Nat):Int)=0)=true:=dTt (by omega)
  simp only [d0,cTt,if_pos h0]
 have d0:decide (((l.length:Nat):Int)=0)=false:=dFf (by omega)
 by_cases h48:48<l.length
 ·have d1:decide ((48:Int)<((l.length:Nat):Int))=true:=dTt (by omega)
  simp only [d0,cFf,d1,cTt,if_neg h0,if_pos h48]
 have d1:decide ((48:Int)<((l.length:Nat):Int))=false:=dFf (by omega)
 have hF:=FUEL_big
 have hw:=walk_listI (f:=B9_0) (λ(n:Int) i=>((l,n,(i:Int),()),())) l
  (λk n=>match chkS k n with | .inl m=>.inl m | .inr e=>.inr (.inr ((e,()),())))
  (λn=>.inl ((n,()),())) (λn i=>0<=n/\n<=8) (b:=0)
  (λn i k hI hi ha=>by
   have hk:=hl k (by have:=ha k;rw [List.getD_eq_getElem?_getD,List.getElem?_eq_getElem hi] at this;simp at this;rw [<- this];exact List.getElem_mem hi)
   have e0:decide ((i:Int)<((l.length:Nat):Int))=true:=dTt (by omega)
   have e1:decide ((0:Int)<=(i:Int))=true:=dTt (by omega)
   have w1:w64 ((i:Int)+1)=((i+1:Nat):Int):=by rw [w64_id (by omega) (by omega)];rfl
   obtain ⟨t1,t2⟩:=tk_bd k.1
   have w2:w64 (w64 (n-tk k.1)+1)=n+1-tk k.1:=by
    rw [w64_id (n:=n-tk k.1) (by omega) (by omega),w64_id (by omega) (by omega)];omega
   have f20:F20 (((k.1,k.2.1,k.2.2.1,k.2.2.2.1,k.2.2.2.2.1.1,k.2.2.2.2.1.2.1,k.2.2.2.2.1.2.2.1,k.2.2.2.2.2.1,k.2.2.2.2.2.2.1,()),()),())=some (lfK k,()) :=
    F20_eq _ _ _ _ _ _ _ _ _ hk.1 hk.2.1 hk.2.2
   unfold chkS
   by_cases c1:k.1<1\/16<k.1
   ·right
    have c1':(decide (k.1<1)||decide (16<k.1))=true:=by simpa using c1
    rw [if_pos c1]
    exact ⟨_,rfl,by simp only [B9_0,e0,e1,bAs,cTt,Bool.true_or,nCt,ha,c1']⟩
   have c1':(decide (k.1<1)||decide (16<k.1))=false:=by simpa using c1
   rw [if_neg c1]
   cases c2:lfK k
   ·right
    rw [if_pos rfl]
    exact ⟨_,rfl,by simp only [B9_0,e0,e1,bAs,cTt,cFf,Bool.true_or,nCt,ha,oBs,c1',f20,c2,Bool.not_false]⟩
   rw [if_neg (by simp)]
   by_cases c3:n<tk k.1
   ·right
    rw [if_pos c3]
    exact ⟨_,rfl,by simp only [B9_0,e0,e1,bAs,cTt,cFf,Bool.true_or,nCt,ha,oBs,c1',f20,c2,Bool.not_true,F21_eq,dTt c3]⟩
   rw [if_neg c3]
   by_cases c4:8<n+1-tk k.1
   ·right
    rw [if_pos c4]
    exact ⟨_,rfl,by simp only [B9_0,e0,e1,bAs,cTt,cFf,Bool.true_or,nCt,ha,oBs,c1',f20,c2,Bool.not_true,F21_eq,dFf c3,w2,dTt c4]⟩
   ·left
    rw [if_neg c4]
    exact ⟨_,rfl,⟨by omega,by omega⟩,by simp only [B9_0,e0,e1,bAs,cTt,cFf,Bool.true_or,nCt,ha,oBs,c1',f20,c2,Bool.not_true,F21_eq,dFf c3,w2,dFf c4,w1]⟩)
  (λn _=>by
   have e0:decide (((l.length:Nat):Int)<((l.length:Nat):Int))=false:=by simp
   simp only [B9_0,e0,cFf])
  (by omega) ⟨by omega,by omega⟩
 have hw':L9_0 ((l,0,0,()),())=_:=hw
 simp only [d0,cFf,d1,hw',oBs,if_neg h0,if_neg h48]
 have hfold:∀ (M:List Key) (n:Int),foldS (λk (n:Int)=>match chkS k n with | .inl m=>.inl m | .inr e=>.inr (.inr ((e,()),()))) (λn=>(.inl ((n,()),()):((Int×Unit)×Unit)⊕((Int×Unit)×Unit))) n M =
   (match chkL n M with | .inl m=>.inl ((m,()),()) | .inr e=>.inr ((e,()),())):=by
  intro M
  induction M with
  | nil=>intro n;rfl
  | cons k M ih =>
   intro n
   simp only [foldS,chkL]
   cases chkS k n with
   | inl m=>exact ih m
   | inr e=>rfl
 rw [hfold]
 cases chkL 0 l with
 | inl n =>
  simp only
  by_cases hn:n=1
  ·simp [hn]
  ·simp [hn]
 | inr e=>rfl
end Go.Qy
namespace Go.Qy
open Go Go.Ev
set_option maxRecDepth 100000
def stp (g:Key->Bool) (row:List Bool) (k:Key):List Bool :=
 row.take (row.length-(tk k.1).toNat)++[if k.1=14 then !row.getD (row.length-(tk k.1).toNat) false
  else if k.1=15 then row.getD (row.length-(tk k.1).toNat) false||row.getD (row.length-(tk k.1).toNat+1) false
  else if k.1=16 then row.getD (row.length-(tk k.1).toNat) false&&row.getD (row.length-(tk k.1).toNat+1) false
  else g k]
theorem stp_len (g:Key->Bool) (row:List Bool) (k:Key) (h:tk k.1<=row.length):((stp g row k).length:Int)=row.length+1-tk k.1:=by
 have:=tk_bd k.1
 unfold stp
 simp
 omega
def st (g:Key->Bool) (l:List Key) (i:Nat):List Bool:=(l.take i).foldl (stp g) []
theorem st_succ (g:Key->Bool) (l:List Key) (i:Nat) (h:i<l.length):st g l (i+1)=stp g (st g l i) l[i]:=by
 unfold st
 rw [List.take_succ_eq_append_getElem h,List.foldl_append]
 rfl
structure Good (g:Key->Bool) (l:List Key):Prop where
 leaf:∀ i (h:i<l.length),lfK l[i]=true/\1<=l[i].1/\l[i].1<=16
 room:∀ i (h:i<l.length),tk l[i].1<=(st g l i).length/\(st g l i).length<=8
theorem chkS_ok {k:Key} {n m:Int} (h:chkS k n=.inl m):(lfK k=true/\1<=k.1/\k.1<=16)/\tk k.1<=n/\m=n+1-tk k.1/\m<=8:=by
 unfold chkS at h
 split at h
 ·cases h
 ·rename_i h1
  split at h
  ·cases h
  ·rename_i h2
   split at h
   ·cases h
   ·rename_i h3
    split at h
    ·cases h
    ·rename_i h4
     cases h
     exact ⟨⟨by simpa using h2,by omega,by omega⟩,by omega,rfl,by omega⟩
theorem chkL_ok (g:Key->Bool):∀ (l:List Key) (row:List Bool) (m:Int),chkL row.length l=.inl m->row.length<=8 ->
  (∀ i (h:i<l.length),(lfK l[i]=true/\1<=l[i].1/\l[i].1<=16)/\tk l[i].1<=((l.take i).foldl (stp g) row).length/\((l.take i).foldl (stp g) row).length<=8) /\
  ((l.foldl (stp g) row).length:Int)=m
 | [],row,m,h,h8=>by
  simp only [chkL,Sum.inl.injEq] at h
  exact ⟨λi h=>by simp at h,by simpa using h⟩
 | k::t,row,m,h,h8=>by
  simp only [chkL] at h
  cases hs:chkS k row.length with
  | inr e=>rw [hs] at h;cases h
  | inl n =>
   rw [hs] at h
   simp only at h
   obtain ⟨h1,h2,h3,h4⟩:=chkS_ok hs
   have hl:=stp_len g row k h2
   have hn:n=((stp g row k).length:Int):=by omega
   rw [hn] at h
   obtain ⟨i1,i2⟩:=chkL_ok g t (stp g row k) m h (by omega)
   refine ⟨λi hi=>?_,i2⟩
   cases i with
   | zero=>exact ⟨h1,h2,h8⟩
   | succ j=>exact i1 j (by simpa using hi)
theorem chkL_err:∀ (l:List Key) (n e:Int),chkL n l=.inr e->e≠0
 | [],n,e,h=>by simp [chkL] at h
 | k::t,n,e,h=>by
  simp only [chkL] at h
  cases hs:chkS k n with
  | inl m=>rw [hs] at h;exact chkL_err t m e h
  | inr e' =>
   rw [hs] at h
   simp only [Sum.inr.injEq] at h
   subst h
   unfold chkS at hs
   split at hs
   ·cases hs;omega
   ·split at hs
    ·cases hs;omega
    ·split at hs
     ·cases hs;omega
     ·split at hs
      ·cases hs;omega
      ·cases hs
theorem good_of_chk (g:Key->Bool) {l:List Key} (h:chk l=0):Good g l/\(st g l l.length).length=1/\0<l.length/\l.length<=48:=by
 unfold chk at h
 split at h
 ·omega
 ·rename_i h0
  split at h
  ·omega
  ·rename_i h48
   cases hc:chkL 0 l with
   | inr e =>
    rw [hc] at h
    exact absurd h (chkL_err _ _ _ hc)
   | inl n =>
    rw [hc] at h
    simp only at h
    have hn:n=1:=by
     by_cases hn:n=1
     ·exact hn
     ·rw [if_neg hn] at h;omega
    obtain ⟨h1,h2⟩:=chkL_ok g l [] n hc (by simp)
    refine ⟨⟨λi hi=>(h1 i hi).1,λi hi=>(h1 i hi).2⟩,?_,by omega,by omega⟩
    unfold st
    rw [List.take_length]
    omega
inductive Sub (g:Key->Bool) (l:List Key):Nat->Nat->Bool->Prop
 | leaf (e:Nat) (h:e<l.length) (h0:tk l[e].1=0):Sub g l e e (g l[e])
 | not (e s:Nat) (v:Bool) (h:e+1<l.length) (h0:l[e+1].1=14) (hs:Sub g l e s v):Sub g l (e+1) s (!v)
 | bin (e s s':Nat) (v1 v2:Bool) (h:e+1<l.length) (h0:l[e+1].1=15\/l[e+1].1=16) (hs:Sub g l e (s+1) v2) (hs':Sub g l s s' v1) :
   Sub g l (e+1) s' (if l[e+1].1=15 then v1||v2 else v1&&v2)
theorem Sub.le {g:Key->Bool} {l:List Key} {e s:Nat} {v:Bool} (h:Sub g l e s v):s<=e/\e<l.length:=by
 induction h with
 | leaf e h h0=>exact ⟨Nat.le_refl _,h⟩
 | not e s v h h0 hs ih=>exact ⟨by omega,h⟩
 | bin e s s' v1 v2 h h0 hs hs' ih ih'=>exact ⟨by omega,h⟩
theorem take_snoc {α:Type} (a:List α) (x:α):(a++[x]).take ((a++[x]).length-1)=a:=by simp
theorem sub_at {g:Key->Bool} {l:List Key} (G:Good g l):∀ (n e:Nat),e<n->(h:e<l.length)->∃ s v,Sub g l e s v/\st g l (e+1)=st g l s++[v]
 | 0,e,hn,_=>by omega
 | n+1,e,hn,h=>by
  obtain ⟨r1,r2⟩:=G.room e h
  obtain ⟨-,l1,l2⟩:=G.leaf e h
  rw [st_succ g l e h]
  by_cases h14:l[e].1=14
  ·have ht:tk l[e].1=1:=by rw [h14];rfl
   rw [ht] at r1
   cases e with
   | zero=>simp [st] at r1
   | succ e =>
    obtain ⟨s,v,hs,hst⟩:=sub_at G n e (by omega) (by omega)
    refine ⟨s,!v,.not e s v h h14 hs,?_⟩
    unfold stp
    rw [ht,if_pos h14,hst]
    simp
  ·by_cases h15:l[e].1=15\/l[e].1=16
   ·have ht:tk l[e].1=2:=by unfold tk;rw [if_neg h14,if_pos h15]
    rw [ht] at r1
    cases e with
    | zero=>simp [st] at r1
    | succ e =>
     obtain ⟨s,v,hs,hst⟩:=sub_at G n e (by omega) (by omega)
     rw [hst] at r1
     cases s with
     | zero=>simp [st] at r1
     | succ s =>
      have hle:=hs.le
      obtain ⟨s',v1,hs',hst'⟩:=sub_at G n s (by omega) (by omega)
      refine ⟨s',_,.bin e s s' v1 v h h15 hs hs',?_⟩
      unfold stp
      rw [ht,if_neg h14,hst,hst']
      rcases h15 with h15 | h15
      ·simp [h15]
      ·simp [h15]
   ·have ht:tk l[e].1=0:=by unfold tk;rw [if_neg h14,if_neg h15]
    refine ⟨e,_,.leaf e h ht,?_⟩
    unfold stp
    rw [ht,if_neg h14,if_neg (λh=>h15 (.inl h)),if_neg (λh=>h15 (.inr h))]
    simp
end Go.Qy
namespace Go.Qy
open Go Go.Ev
set_option maxRecDepth 100000
abbrev KF:Type:=Int×UInt8×Int×List UInt8×Int×Int×Int×List UInt8×List UInt8×Unit
def kf (k:Key):KF:=(k.1,k.2.1,k.2.2.1,k.2.2.2.1,k.2.2.2.2.1.1,k.2.2.2.2.1.2.1,k.2.2.2.2.1.2.2.1,k.2.2.2.2.2.1,k.2.2.2.2.2.2.1,())
def Reach {σ τ:Type} (f:σ->Option (σ⊕τ)) (c:Nat) (p q:σ):Prop:=∀ k,iter f (c+k) p=iter f k q
theorem Reach.one {σ τ:Type} {f:σ->Option (σ⊕τ)} {p q:σ} (h:f p=some (.inl q)):Reach f 1 p q:=λk=>by
 rw [Nat.add_comm]
 simp only [iter,h]
theorem Reach.trans {σ τ:Type} {f:σ->Option (σ⊕τ)} {c d:Nat} {p q r:σ} (h:Reach f c p q) (h':Reach f d q r):Reach f (c+d) p r:=λk=>by
 rw [Nat.add_assoc,h,h']
theorem B30_step (l:List Key) (hl:l.length<=48) (e:Nat) (m:Nat) (hm:m<=100) (h:e<l.length) :
  B30_0 ((l,(e:Int),((m+1:Nat):Int),()),())=some (.inl ((l,(e:Int)-1,(m:Int)+tk l[e].1,()),())):=by
 have:=tk_bd l[e].1
 have d0:decide ((0:Int)<((m+1:Nat):Int))=true:=dTt (by omega)
 have d1:decide ((0:Int)<=(e:Int))=true:=dTt (by omega)
 have d2:decide ((e:Int)<((l.length:Nat):Int))=true:=dTt (by omega)
 have g:∀ d,l.getD e d=l[e]:=λd=>by rw [List.getD_eq_getElem?_getD,List.getElem?_eq_getElem h];rfl
 have w1:w64 ((e:Int)-1)=(e:Int)-1:=w64_id (by omega) (by omega)
 have w2:w64 (w64 (((m+1:Nat):Int)-1)+tk l[e].1)=(m:Int)+tk l[e].1:=by
  rw [w64_id (n:=((m+1:Nat):Int)-1) (by omega) (by omega),w64_id (by omega) (by omega)];omega
 simp only [B30_0,d0,d1,d2,bAs,cTt,nCt,g,F21_eq,oBs,w1,w2]
theorem from_reach {g:Key->Bool} {l:List Key} (hl:l.length<=48) {e s:Nat} {v:Bool} (h:Sub g l e s v):∃ c,c<=e+1-s/\∀ m,m+e<=90 ->
  Reach B30_0 c ((l,(e:Int),((m+1:Nat):Int),()),()) ((l,(s:Int)-1,(m:Int),()),()):=by
 induction h with
 | leaf e h h0 =>
  refine ⟨1,by omega,λm hm=>Reach.one ?_⟩
  rw [B30_step l hl e m (by omega) h,h0,Int.add_zero]
 | not e s v h h0 hs ih =>
  obtain ⟨c,hc,ih⟩:=ih
  have hle:=hs.le
  refine ⟨1+c,by omega,λm hm=>(Reach.one ?_).trans (ih m (by omega))⟩
  rw [B30_step l hl (e+1) m (by omega) h,h0]
  have e1:(((e+1:Nat):Int)-1)=(e:Int):=by omega
  have e2:(m:Int)+tk 14=((m+1:Nat):Int):=by show (m:Int)+1=_;omega
  rw [e1,e2]
 | bin e s s' v1 v2 h h0 hs hs' ih ih' =>
  obtain ⟨c,hc,ih⟩:=ih
  obtain ⟨c',hc',ih'⟩:=ih'
  have hle:=hs.le
  have hle':=hs'.le
  refine ⟨1+c+c',by omega,λm hm=>((Reach.one ?_).trans (ih (m+1) (by omega))).trans ?_⟩
  ·rw [B30_step l hl (e+1) m (by omega) h]
   have e1:(((e+1:Nat):Int)-1)=(e:Int):=by omega
   have e2:(m:Int)+tk l[e+1].1=((m+1+1:Nat):Int):=by
    have:tk l[e+1].1=2:=by rcases h0 with h0 | h0 <;> rw [h0] <;> rfl
    omega
   rw [e1,e2]
  ·have:=ih' m (by omega)
   have e1:(((s+1:Nat):Int)-1)=(s:Int):=by omega
   rw [e1]
   exact this
theorem F30_eq {g:Key->Bool} {l:List Key} (hl:l.length<=48) {e s:Nat} {v:Bool} (h:Sub g l e s v):F30 ((l,(e:Int),()),())=some ((s:Int),()):=by
 obtain ⟨c,hc,hr⟩:=from_reach hl h
 have hle:=h.le
 have hL:L30_0 ((l,(e:Int),1,()),())=some (((s:Int)-1,()),()):=by
  obtain ⟨k,hk⟩:∃ k,FUEL=c+(k+1):=⟨FUEL-c-1,by unfold FUEL;omega⟩
  show iter B30_0 FUEL _=_
  have:=hr 0 (by omega) (k+1)
  rw [hk]
  refine this.trans ?_
  have d0:decide ((0:Int)<((0:Nat):Int))=false:=rfl
  simp only [iter,B30_0,d0,cFf]
 have w1:w64 ((s:Int)-1+1)=(s:Int):=by rw [w64_id (by omega) (by omega)];omega
 simp only [F30,hL,oBs,w1]
abbrev SX:Type:=Int×Int×Int×Int×UInt8×(List UInt8)×Unit
theorem F17_eq {g:Key->Bool} {l:List Key} (hl:l.length<=48) (x:SX) (h31:∀ k∈l,tk k.1=0->F31 ((kf k,x,()),())=some (g k,())):∀ {e s:Nat} {v:Bool},Sub g l e s v->∀ n,e<n ->
  F17 n ((l,(e:Int),x,()),())=some (v,()):=by
 intro e s v h
 induction h with
 | leaf e h h0 =>
  intro n hn
  obtain ⟨k,rfl⟩:∃ k,n=k+1:=⟨n-1,by omega⟩
  have d1:decide ((0:Int)<=(e:Int))=true:=dTt (by omega)
  have d2:decide ((e:Int)<((l.length:Nat):Int))=true:=dTt (by omega)
  have gg:∀ d,l.getD e d=l[e]:=λd=>by rw [List.getD_eq_getElem?_getD,List.getElem?_eq_getElem h];rfl
  have t14:l[e].1≠14:=λh=>by rw [h] at h0;exact absurd h0 (by decide)
  have t15:l[e].1≠15:=λh=>by rw [h] at h0;exact absurd h0 (by decide)
  have t16:l[e].1≠16:=λh=>by rw [h] at h0;exact absurd h0 (by decide)
  have hk:=h31 l[e] (List.getElem_mem h) h0
  unfold kf at hk
  show F17s (F17 k) _=_
  simp only [F17s,d1,d2,bAs,cTt,nCt,gg,oBs,dFf t14,dFf t15,dFf t16,cFf,hk]
 | not e s v h h0 hs ih =>
  intro n hn
  obtain ⟨k,rfl⟩:∃ k,n=k+1:=⟨n-1,by omega⟩
  have d1:decide ((0:Int)<=((e+1:Nat):Int))=true:=dTt (by omega)
  have d2:decide (((e+1:Nat):Int)<((l.length:Nat):Int))=true:=dTt (by omega)
  have gg:∀ d,l.getD (e+1) d=l[e+1]:=λd=>by rw [List.getD_eq_getElem?_getD,List.getElem?_eq_getElem h];rfl
  have w1:w64 (((e+1:Nat):Int)-1)=(e:Int):=by rw [w64_id (by omega) (by omega)];omega
  have hk:=ih k (by omega)
  show F17s (F17 k) _=_
  simp only [F17s,d1,d2,bAs,cTt,nCt,gg,oBs,h0,dTr,w1,hk]
 | bin e s s' v1 v2 h h0 hs hs' ih ih' =>
  intro n hn
  obtain ⟨k,rfl⟩:∃ k,n=k+1:=⟨n-1,by omega⟩
  have d1:decide ((0:Int)<=((e+1:Nat):Int))=true:=dTt (by omega)
  have d2:decide (((e+1:Nat):Int)<((l.length:Nat):Int))=true:=dTt (by omega)
  have gg:∀ d,l.getD (e+1) d=l[e+1]:=λd=>by rw [List.getD_eq_getElem?_getD,List.getElem?_eq_getElem h];rfl
  have w1:w64 (((e+1:Nat):Int)-1)=(e:Int):=by rw [w64_id (by omega) (by omega)];omega
  have hk:=ih k (by omega)
  have hle:=hs.le
  have hk':=ih' k (by omega)
  have hfr:=F30_eq hl hs
  have w2:w64 (((s+1:Nat):Int)-1)=(s:Int):=by rw [w64_id (by omega) (by omega)];omega
  have n1:decide ((15:Int)=14)=false:=by decide
  have n2:decide ((16:Int)=14)=false:=by decide
  have n3:decide ((16:Int)=15)=false:=by decide
  show F17s (F17 k) _=_
  rcases h0 with h0 | h0
  ·simp only [F17s,d1,d2,bAs,cTt,nCt,gg,oBs,h0,dTr,w1,hk,n1,cFf,hfr,w2,hk',if_true]
   cases v1 <;> cases v2 <;> rfl
  ·simp only [F17s,d1,d2,bAs,cTt,nCt,gg,oBs,h0,dTr,w1,hk,n2,n3,cFf,hfr,w2,hk']
   cases v1 <;> cases v2 <;> rfl
end Go.Qy
namespace Go.Qy
open Go Go.Ev
set_option maxRecDepth 100000
abbrev LX:Type:=Int×Int×Int×Int×UInt8×(List UInt8)×(List ((List UInt8)×((List UInt8)×(Int×Unit))))×(List UInt8)×Unit
theorem B15_step (g:Key->Bool) (l:List Key) (X:LX) (row:List Bool) (i:Nat) (k:Key) (hl:l.length<=48) (hi:i<l.length) (ha:∀ d,l.getD i d=k) (ht:tk k.1<=row.length) (h8:row.length<=8)
  (h28:tk k.1=0->F28 ((X,kf k,()),())=some (g k,())) :
  B15_0 (((),(),l,((l.length:Nat):Int),(i:Int),()),(X,row,()))=some (.inl (((),(),l,((l.length:Nat):Int),((i+1:Nat):Int),()),(X,stp g row k,()))):=by
 have:=tk_bd k.1
 have e0:decide ((i:Int)<((l.length:Nat):Int))=true:=dTt (by omega)
 have e1:decide ((0:Int)<=(i:Int))=true:=dTt (by omega)
 have w1:w64 ((i:Int)+1)=((i+1:Nat):Int):=by rw [w64_id (by omega) (by omega)];rfl
 obtain ⟨N,hN⟩:∃ N,N=row.length-(tk k.1).toNat:=⟨_,rfl⟩
 have hNl:N<=row.length:=by omega
 have hw:w64 (((row.length:Nat):Int)-tk k.1)=(N:Int):=by rw [w64_id (by omega) (by omega)];omega
 have c1:decide ((0:Int)<=(N:Int))=true:=dTt (by omega)
 have c2:decide ((N:Int)<=((row.length:Nat):Int))=true:=dTt (by omega)
 have c3:decide (((row.length:Nat):Int)<=((row.length:Nat):Int))=true:=dTt (by omega)
 have c4:decide ((N:Int)<=(N:Int))=true:=dTt (by omega)
 have bk:∀ b:Bool,bytesOK ((row.take N).length+([b]:List Bool).length) 1=true:=λb=>dTt (by simp;omega)
 have hs:stp g row k=row.take N++[if k.1=14 then !row.getD N false else if k.1=15 then row.getD N false||row.getD (N+1) false else if k.1=16 then row.getD N false&&row.getD (N+1) false else g k]:=by
  unfold stp
  rw [<- hN]
 rw [hs]
 by_cases h14:k.1=14
 ·have t1:tk k.1=1:=by rw [h14];rfl
  have c5:decide ((0:Int)<((row.length-N:Nat):Int))=true:=dTt (by omega)
  rw [if_pos h14]
  simp only [B15_0,e0,e1,bAs,cTt,nCt,ha,oBs,F27_eq,hw,c1,c2,c3,c4,c5,dTt h14,bk,w1]
 have d14:decide (k.1=14)=false:=dFf h14
 rw [if_neg h14]
 by_cases h15:k.1=15
 ·have t1:tk k.1=2:=by rw [h15];rfl
  have c5:decide ((0:Int)<((row.length-N:Nat):Int))=true:=dTt (by omega)
  have c6:decide ((1:Int)<((row.length-N:Nat):Int))=true:=dTt (by omega)
  rw [if_pos h15]
  simp only [B15_0,e0,e1,bAs,cTt,nCt,ha,oBs,F27_eq,hw,c1,c2,c3,c4,c5,c6,Bool.true_or,d14,cFf,dTt h15,bk,w1]
 have d15:decide (k.1=15)=false:=dFf h15
 rw [if_neg h15]
 by_cases h16:k.1=16
 ·have t1:tk k.1=2:=by rw [h16];rfl
  have c5:decide ((0:Int)<((row.length-N:Nat):Int))=true:=dTt (by omega)
  have c6:decide ((1:Int)<((row.length-N:Nat):Int))=true:=dTt (by omega)
  rw [if_pos h16]
  simp only [B15_0,e0,e1,bAs,cTt,nCt,ha,oBs,F27_eq,hw,c1,c2,c3,c4,c5,c6,Bool.true_or,d14,d15,cFf,dTt h16,bk,w1]
 have d16:decide (k.1=16)=false:=dFf h16
 rw [if_neg h16]
 have t0:tk k.1=0:=by unfold tk;rw [if_neg h14,if_neg (by omega)]
 have h:=h28 t0
 unfold kf at h
 simp only [B15_0,e0,e1,bAs,cTt,nCt,ha,oBs,F27_eq,hw,c1,c2,c3,c4,d14,d15,d16,cFf,h,bk,w1]
theorem F15_eq {g:Key->Bool} {l:List Key} (G:Good g l) (hl:l.length<=48) (h1:(st g l l.length).length=1) (X:LX) (h28:∀ k∈l,lfK k=true->tk k.1=0->F28 ((X,kf k,()),())=some (g k,())) :
  F15 ((l,X,()),())=some ((st g l l.length).getD 0 false,()):=by
 have hF:=FUEL_big
 have hw:=walk_listI (f:=B15_0) (λ(row:List Bool) i=>(((),(),l,((l.length:Nat):Int),(i:Int),()),(X,row,()))) l
  (λk row=>.inl (stp g row k)) (λrow=>(((),()),(row,()))) (λrow i=>row=st g l i) (b:=[])
  (λrow i k hI hi ha=>by
   subst hI
   have hk:l[i]=k:=by have:=ha k;rw [List.getD_eq_getElem?_getD,List.getElem?_eq_getElem hi] at this;simpa using this
   obtain ⟨r1,r2⟩:=G.room i hi
   obtain ⟨l0,l1,l2⟩:=G.leaf i hi
   rw [hk] at r1 l0
   refine .inl ⟨_,rfl,?_,B15_step g l X _ i k hl hi ha r1 r2 λt0=>h28 k (by rw [<- hk];exact List.getElem_mem hi) l0 t0⟩
   rw [st_succ g l i hi,hk])
  (λrow _=>by
   have e0:decide (((l.length:Nat):Int)<((l.length:Nat):Int))=false:=by simp
   simp only [B15_0,e0,cFf])
  (by omega) (by simp [st])
 have hw':L15_0 (((),(),l,((l.length:Nat):Int),0,()),(X,[],()))=_:=hw
 have hfold:∀ (M:List Key) (row:List Bool),foldS (λk row=>(.inl (stp g row k):List Bool⊕((Unit×Unit)×(List Bool×Unit)))) (λrow=>(((),()),(row,()))) row M=(((),()),(M.foldl (stp g) row,())):=by
  intro M
  induction M with
  | nil=>intro row;rfl
  | cons k M ih=>intro row;exact ih _
 rw [hfold] at hw'
 have e:l.foldl (stp g) []=st g l l.length:=by unfold st;rw [List.take_length]
 rw [e] at hw'
 have d0:decide ((0:Int)<(((st g l l.length).length:Nat):Int))=true:=dTt (by omega)
 simp only [F15,hw',oBs,d0,cTt]
theorem both {g:Key->Bool} {l:List Key} (hc:chk l=0) (X:LX) (x:SX) (h28:∀ k∈l,lfK k=true->tk k.1=0->F28 ((X,kf k,()),())=some (g k,()))
  (h31:∀ k∈l,lfK k=true->tk k.1=0->F31 ((kf k,x,()),())=some (g k,())) :
  F15 ((l,X,()),())=some ((st g l l.length).getD 0 false,())/\F17d ((l,w64 (((l.length:Nat):Int)-1),x,()),())=some ((st g l l.length).getD 0 false,()):=by
 obtain ⟨G,h1,h0,hl⟩:=good_of_chk g hc
 refine ⟨F15_eq G hl h1 X h28,?_⟩
 obtain ⟨s,v,hs,hst⟩:=sub_at G l.length (l.length-1) (by omega) (by omega)
 have e1:l.length-1+1=l.length:=by omega
 rw [e1] at hst
 have hs0:st g l s=[]:=by
  rw [hst] at h1
  simp only [List.length_append,List.length_cons,List.length_nil] at h1
  exact List.length_eq_zero_iff.1 (by omega)
 rw [hst,hs0]
 have w1:w64 (((l.length:Nat):Int)-1)=((l.length-1:Nat):Int):=by rw [w64_id (by omega) (by omega)];omega
 rw [w1]
 show F17 50 _=_
 refine F17_eq hl x (λk hk h0=>?_) hs 50 (by omega)
 obtain ⟨i,hi,rfl⟩:=List.getElem_of_mem hk
 exact h31 _ hk (G.leaf i hi).1 h0
end Go.Qy
namespace Go.Qh
open Go Go.Ev Go.Qy
set_option maxRecDepth 100000
section
theorem rtr_len:∀ s:List UInt8,(rtr s).length<=s.length
 | []=>Nat.le_refl _
 | a::t=>by
  have:=rtr_len t
  unfold rtr
  split
  ·exact Nat.zero_le _
  ·simp only [List.length_cons];omega
theorem trm_len (s:List UInt8):(trm s).length<=s.length:=Nat.le_trans (rtr_len _) (ltr_len _)
end
section
def GoodS (n:Nat):(List Fld×Nat)⊕(Nat×Int)->Prop
 | .inl o=>o.2<=n/\o.1.length<=40/\∀ f∈o.1,f.1.length<=n/\f.2.1.length<=n
 | .inr e=>e.2≠0
theorem spl_ok {n:Nat}:∀ (k:Nat) (rest:List UInt8) (at':Nat) (out:List Fld),at'+rest.length<=n->out.length<=40->(∀ f∈out,f.1.length<=n/\f.2.1.length+rest.length<=n)->GoodS n (spl k rest at' out)
 | 0,rest,at',out,h,h1,h2=>⟨by show at'<=n;omega,h1,λf hf=>⟨(h2 f hf).1,by have:=(h2 f hf).2;omega⟩⟩
 | k+1,rest,at',out,h,h1,h2=>by
  have hl:=ln_le rest
  have hd:(rest.drop (ln rest).2).length=rest.length-(ln rest).2:=List.length_drop
  unfold spl
  split
  ·exact ⟨by show at'<=n;omega,h1,λf hf=>⟨(h2 f hf).1,by have:=(h2 f hf).2;omega⟩⟩
  ·split
   ·exact ⟨by show at'+(ln rest).2<=n;omega,h1,λf hf=>⟨(h2 f hf).1,by have:=(h2 f hf).2;omega⟩⟩
   ·split
    ·show (6:Int)≠0;decide
    ·split
     ·rename_i hb
      simp only [bAt,dTe] at hb
      refine spl_ok k _ _ _ (by rw [hd];omega) (by unfold addl;rw [List.length_set];exact h1) λf hf=>?_
      rw [hd]
      unfold addl at hf
      rcases List.mem_or_eq_of_mem_set hf with hm | rfl
      ·have:=h2 f hm
       exact ⟨this.1,by omega⟩
      ·have hm:out.getD (out.length-1) nof∈out:=by
        rw [List.getD_eq_getElem?_getD,List.getElem?_eq_getElem (by omega)]
        exact List.getElem_mem _
       have:=h2 _ hm
       refine ⟨this.1,?_⟩
       show ((out.getD (out.length-1) nof).2.1++(ln rest).1).length+_<=n
       rw [List.length_append]
       omega
     ·split
      ·show (4:Int)≠0;decide
      ·split
       ·split
        ·show (6:Int)≠0;decide
        ·rename_i j _ _ _
         refine spl_ok k _ _ _ (by rw [hd];omega) (by rw [List.length_append,List.length_singleton];omega) λf hf=>?_
         rw [hd]
         rcases List.mem_append.1 hf with hm | hm
         ·have:=h2 f hm
          exact ⟨this.1,by omega⟩
         ·rw [List.mem_singleton] at hm
          subst hm
          refine ⟨?_,?_⟩
          ·show ((ln rest).1.take j).length<=n
           rw [List.length_take];omega
          ·show ((ln rest).1.drop (j+1)).length+_<=n
           rw [List.length_drop];omega
       ·show (4:Int)≠0;decide
theorem trm_le (l:List UInt8):(trm l).length<=l.length:=trm_len l
theorem split_ok (b:List UInt8):((split b).2.2.1=0->0<=(split b).2.1/\(split b).2.1<=b.length)/\(split b).1.length<=40/\∀ f∈(split b).1,f.1.length<=b.length/\f.2.1.length<=b.length:=by
 have h:=spl_ok (n:=b.length) (b.length+1) b 0 [] (by omega) (by simp) (by simp)
 unfold split
 cases hs:spl (b.length+1) b 0 [] with
 | inl o =>
  rw [hs] at h
  obtain ⟨h1,h2,h3⟩:=h
  refine ⟨λ_=>⟨by simp [fin],by simp only [fin];omega⟩,by simp [fin,h2],λf hf=>?_⟩
  simp only [fin,List.mem_map] at hf
  obtain ⟨g,hg,rfl⟩:=hf
  have:=h3 g hg
  exact ⟨this.1,Nat.le_trans (trm_le _) this.2⟩
 | inr e =>
  rw [hs] at h
  refine ⟨λh0=>absurd h0 h,by simp [fin],by simp [fin]⟩
theorem alls_mem {l:List Fld} {name x:List UInt8} (h:x∈alls l name):∃ f∈l,x=f.2.1:=by
 unfold alls at h
 simp only [List.mem_map,List.mem_filter] at h
 obtain ⟨f,hf,rfl⟩:=h
 exact ⟨f,hf.1,rfl⟩
end
end Go.Qh
namespace Go.Qb
open Go Go.Ev Go.Qy Go.Sort Go.RowKit Go.Proofs
set_option maxRecDepth 100000
section
theorem astep_len:∀ (l:List Pr) (st:Pr×List Pr),(l.foldl astep st).2.length<=l.length+st.2.length
 | [],st=>by simp
 | a::t,st=>by
  have h:=astep_len t (astep st a)
  have:(astep st a).2.length<=st.2.length+1:=by
   unfold astep
   split
   ·simp
   ·simp
  rw [List.foldl_cons]
  simp only [List.length_cons]
  omega
theorem lays_len (out:List Pr) (p:Pr):(lays out p).length<=out.length+1:=by
 have:=astep_len out (p,[])
 simp only [List.length_nil,Nat.add_zero] at this
 unfold lays
 rw [insR_len]
 omega
theorem layall_len:∀ (l out:List Pr),(l.foldl lays out).length<=out.length+l.length
 | [],out=>by simp
 | p::t,out=>by
  have h:=layall_len t (lays out p)
  have:=lays_len out p
  rw [List.foldl_cons]
  simp only [List.length_cons]
  omega
theorem joined_len (P:List Pr):(joined P).length<=P.length:=by
 have:=layall_len (P.map nrm) []
 rw [List.length_map] at this
 simpa [joined] using this
theorem set_len (s:List UInt8) (most:Int):(set s most).1.length<=32:=by
 unfold set
 split
 ·exact Nat.zero_le _
 ·unfold resR
  split
  ·exact Nat.zero_le _
  ·split
   ·exact Nat.zero_le _
   ·split
    ·exact Nat.zero_le _
    ·have:=joined_len ((prs (lets s.length s).length ((lets s.length s).length+1) (lets s.length s) []).2.1.map (subs most))
     rw [List.length_map] at this
     simp only
     omega
end
end Go.Qb
namespace Go.Qy
open Go Go.Ev
set_option maxRecDepth 100000
def hold (s t:List UInt8):Bool:=Lib.contains (s.map Go.Qh.lowc) (t.map Go.Qh.lowc)
theorem F51_eq (s t:List UInt8) (hs:s.length<=1100000) (ht:t.length<=1100000):F51 ((s,t,()),())=some (hold s t,()):=by
 have hm:maxLen=9223372036854775807:=rfl
 have d:decide ((s.map Go.Qh.lowc).length<4294967281)=true:=dTt (by simp;omega)
 simp only [F51,Go.Qh.F88_eq s (by omega),Go.Qh.F88_eq t (by omega),oBs,d,cTt]
 rfl
open Classical in
theorem B59_iter (a b:List UInt8) (ha:a.length<=1100000) (hb:b.length<=1100000):∀ (n k i:Nat),a.length+1-i<=n->n<k->i<=a.length+1 ->
  iter B59_0 k ((a,b,(i:Int),()),())=some (if ∃ j,i<=j/\j<=a.length/\Lib.occAt a b j=true then .inr (((),()),()) else .inl ((),()))
 | n,0,i,_,hk,_=>by omega
 | n,k+1,i,hn,hk,hi=>by
  have w0:w64 ((i:Int)+((b.length:Nat):Int))=((i+b.length:Nat):Int):=by rw [w64_id (by omega) (by omega)];omega
  have w1:w64 ((i:Int)+1)=((i+1:Nat):Int):=by rw [w64_id (by omega) (by omega)];rfl
  have hocc:∀ j,Lib.occAt a b j=true->b.length+j<=a.length\/b=[]:=λj h=>by
   rcases Lib.occAt_room h with h | h
   ·left;omega
   ·right;exact h
  by_cases hlt:i+b.length<=a.length
  ·have d0:decide (((i+b.length:Nat):Int)<=((a.length:Nat):Int))=true:=dTt (by omega)
   have d1:decide ((0:Int)<=(i:Int))=true:=dTt (by omega)
   have d2:decide ((i:Int)<=((i+b.length:Nat):Int))=true:=dTt (by omega)
   have e1:i+b.length-i=b.length:=by omega
   have hp:Lib.occAt a b i=decide ((a.drop i).take b.length=b):=by
    unfold Lib.occAt
    rw [Bool.eq_iff_iff,List.isPrefixOf_iff_prefix,dTe,List.prefix_iff_eq_take]
    exact eq_comm
   by_cases ho:Lib.occAt a b i=true
   ·have h1:decide ((a.drop i).take b.length=b)=true:=by rw [<- hp];exact ho
    rw [if_pos ⟨i,Nat.le_refl _,by omega,ho⟩]
    simp only [iter,B59_0,w0,d0,d1,d2,bAs,cTt,nCt,e1,h1]
   ·have h1:decide ((a.drop i).take b.length=b)=false:=by rw [<- hp];simpa using ho
    have ih:=B59_iter a b ha hb (n-1) k (i+1) (by omega) (by omega) (by omega)
    have hc:(∃ j,i<=j/\j<=a.length/\Lib.occAt a b j=true)<->∃ j,i+1<=j/\j<=a.length/\Lib.occAt a b j=true:=by
     constructor
     ·rintro ⟨j,h1,h2,h3⟩
      have:i≠j:=λe=>ho (by rw [e];exact h3)
      exact ⟨j,by omega,h2,h3⟩
     ·rintro ⟨j,h1,h2,h3⟩
      exact ⟨j,by omega,h2,h3⟩
    simp only [hc]
    rw [<- ih]
    simp only [iter,B59_0,w0,d0,d1,d2,bAs,cTt,nCt,e1,h1,cFf,w1]
  ·have d0:decide (((i+b.length:Nat):Int)<=((a.length:Nat):Int))=false:=dFf (by omega)
   have hc:¬ ∃ j,i<=j/\j<=a.length/\Lib.occAt a b j=true:=by
    rintro ⟨j,h1,h2,h3⟩
    rcases hocc j h3 with h | h
    ·omega
    ·rw [h] at hlt;simp at hlt;omega
   rw [if_neg hc]
   simp only [iter,B59_0,w0,d0,cFf]
theorem contains_iff (a b:List UInt8):Lib.contains a b=true<->∃ j,0<=j/\j<=a.length/\Lib.occAt a b j=true:=by
 unfold Lib.contains
 rw [dTe]
 rcases Lib.index_spec a b with ⟨h1,h2⟩ | ⟨i,h1,h2,h3,_⟩
 ·constructor
  ·intro h;omega
  ·rintro ⟨j,_,hj,ho⟩
   rw [h2 j hj] at ho
   cases ho
 ·exact ⟨λ_=>⟨i,Nat.zero_le _,h2,h3⟩,λ_=>by omega⟩
theorem F59_eq (s t:List UInt8) (hs:s.length<=1100000) (ht:t.length<=1100000):F59 ((s,t,()),())=some (hold s t,()):=by
 have hm:maxLen=9223372036854775807:=rfl
 have h:L59_0 ((s.map Go.Qh.lowc,t.map Go.Qh.lowc,0,()),())=_:=B59_iter (s.map Go.Qh.lowc) (t.map Go.Qh.lowc) (by simpa using hs) (by simpa using ht) ((s.map Go.Qh.lowc).length+1) FUEL 0 (by omega) (by simp;unfold FUEL;omega) (by omega)
 simp only [F59,Go.Qh.F96_eq s (by omega),Go.Qh.F96_eq t (by omega),oBs,h]
 unfold hold
 by_cases hc:Lib.contains (s.map Go.Qh.lowc) (t.map Go.Qh.lowc)=true
 ·rw [if_pos ((contains_iff _ _).1 hc),hc]
  rfl
 ·rw [if_neg (λh=>hc ((contains_iff _ _).2 h))]
  simp only [Bool.not_eq_true] at hc
  rw [hc]
  rfl
def clamp (m:Int):Int:=if m<0 then 0 else if 4294967295<m then 4294967295 else m
def memb (s:List UInt8) (n most:Int):Bool:=decide ((Go.Qb.set s (clamp most)).2.2.1=0)&&(Go.Qb.set s (clamp most)).1.any (Go.Qb.inn n)
theorem F46_eq (s:List UInt8) (n most:Int) (hs:s.length<=1100000):F46 ((s,n,most,()),())=some (memb s n most,()):=by
 have hc:(cond (decide ((4294967295:Int)<(cond (decide (most<(0:Int))) (0:Int) most))) (4294967295:Int) (cond (decide (most<(0:Int))) (0:Int) most))=clamp most:=by
  unfold clamp
  by_cases h:most<0
  ·simp [h]
  ·by_cases h2:4294967295<most
   ·simp [h,h2]
   ·simp [h,h2]
 have hl:=Go.Qb.set_len s (clamp most)
 simp only [F46,hc,Go.Qb.F5_set s (clamp most) hs,oBs,Go.Qb.F83_eq _ n hl]
 unfold memb
 cases decide ((Go.Qb.set s (clamp most)).2.2.1=0) <;> rfl
theorem F58_eq (s:List UInt8) (n most:Int) (hs:s.length<=1100000):F58 ((s,n,most,()),())=some (memb s n most,()):=by
 have hc:(Option.bind (cond (decide (most<(0:Int))) (some ((s,n,(0:Int),()),())) (some ((s,n,most,()),()))) λp1=>cond (decide ((4294967295:Int)<p1.1.2.2.1)) (some ((p1.1.1,p1.1.2.1,(4294967295:Int),()),())) (some (p1.1,())))=some ((s,n,clamp most,()),()):=by
  unfold clamp
  by_cases h:most<0
  ·simp [h]
  ·by_cases h2:4294967295<most
   ·simp [h,h2]
   ·simp [h,h2]
 have hl:=Go.Qb.set_len s (clamp most)
 unfold F58
 have hb:∀ {α β γ:Type} (o:Option α) (f:α->Option β) (g:β->Option γ),(o.bind λx=>(f x).bind g)=(o.bind f).bind g:=λo f g=>by cases o <;> rfl
 rw [hb,hc]
 simp only [oBs,Go.Qb.F6_set s (clamp most) hs]
 unfold memb
 obtain ⟨L,hL⟩:∃ L,(Go.Qb.set s (clamp most)).1=L:=⟨_,rfl⟩
 obtain ⟨e,he⟩:∃ e,(Go.Qb.set s (clamp most)).2.2.1=e:=⟨_,rfl⟩
 rw [hL] at hl
 rw [hL,he]
 have hF:=FUEL_big
 by_cases h0:e=0
 ·subst h0
  have hw:=walk_list (f:=B58_0) (λ(_:Unit) i=>((n,L,0,(i:Int),()),())) L (λa _=>if Go.Qb.inn n a=true then .inr (.inr (((),()),())) else .inl ()) (λ_=>.inl ((),()))
   (λ_ i a hi ha=>by
    have d0:decide ((i:Int)<((L.length:Nat):Int))=true:=dTt (by omega)
    have d1:decide ((0:Int)<=(i:Int))=true:=dTt (by omega)
    have w1:w64 ((i:Int)+1)=((i+1:Nat):Int):=by rw [w64_id (by omega) (by omega)];rfl
    have hin:(decide (a.1<=n)&&decide (n<=a.2.1))=Go.Qb.inn n a:=rfl
    cases h:Go.Qb.inn n a
    ·simp only [B58_0,dTr,d0,d1,bAs,cTt,Bool.true_or,nCt,ha,hin,h,cFf,w1,Bool.false_eq_true,if_false]
    ·simp only [B58_0,dTr,d0,d1,bAs,cTt,Bool.true_or,nCt,ha,hin,h,if_true])
   (λ_=>by
    have d0:decide (((L.length:Nat):Int)<((L.length:Nat):Int))=false:=by simp
    simp only [B58_0,d0,Bool.and_false,cFf]) (by omega) (b:=())
  have hw':L58_0 ((n,L,0,0,()),())=_:=hw
  rw [hw']
  have hfold:∀ M:List Go.Qb.Pr,foldS (λa (_:Unit)=>if Go.Qb.inn n a=true then .inr (.inr (((),()),())) else .inl ()) (λ_=>(.inl ((),()):(Unit×Unit)⊕((Unit×Unit)×Unit))) () M=if M.any (Go.Qb.inn n)=true then .inr (((),()),()) else .inl ((),()):=by
   intro M
   induction M with
   | nil=>rfl
   | cons a M ih =>
    cases h:Go.Qb.inn n a
    ·simp only [foldS,h,Bool.false_eq_true,if_false,List.any_cons,Bool.false_or]
     exact ih
    ·simp only [foldS,h,if_true,List.any_cons,Bool.true_or]
  rw [hfold]
  cases L.any (Go.Qb.inn n) <;> rfl
 ·have hd:decide (e=0)=false:=dFf h0
  have hL0:L58_0 ((n,L,e,0,()),())=some (.inl ((),())):=by
   obtain ⟨k,hk⟩:∃ k,FUEL=k+1:=⟨FUEL-1,by omega⟩
   show iter B58_0 FUEL _=_
   rw [hk]
   simp only [iter,B58_0,hd,Bool.false_and,cFf]
  rw [hL0,hd]
  rfl
end Go.Qy
namespace Go.Qy
open Go Go.Ev
set_option maxRecDepth 100000
theorem days2 (y m d:Int):∃ n e,F43 (((y,m,d,()),()),())=some ((n,e,()),())/\F63 (((y,m,d,()),()),())=some ((n,e,()),()):=by
 rcases Go.Qd.days y m d with ⟨_,h1,h2⟩ | ⟨_,h1,h2⟩
 ·exact ⟨_,_,h1,h2⟩
 ·exact ⟨_,_,h1,h2⟩
theorem here2 (s z:Int):(∃ a b y m d,F154 (((s,z,()),()),())=some ((a,b,true,()),())/\F138 (((s,z,()),()),())=some (((y,m,d,()),0,()),())/\F62 (((s,z,()),()),())=some (((y,m,d,()),0,()),())) \/
  (∃ a b,F154 (((s,z,()),()),())=some ((a,b,false,()),())/\F138 (((s,z,()),()),())=some (((0,0,0,()),2,()),())/\F62 (((s,z,()),()),())=some (((0,0,0,()),2,()),())):=by
 rcases Go.Qd.there s z with ⟨day,rest,y,m,d,h1,h2,_,h3,h4⟩ | ⟨a,b,c,d,h1,h2⟩
 ·refine .inl ⟨day,rest,y,m,d,h1,?_,?_⟩
  ·simp only [F138,h1,oBs,Bool.not_true,cFf,h3]
  ·simp only [F62,h2,oBs,Bool.not_true,cFf,h4]
 ·refine .inr ⟨a,b,h1,?_,?_⟩
  ·simp only [F138,h1,oBs,Bool.not_false,cTt]
  ·simp only [F62,h2,oBs,Bool.not_false,cTt]
theorem F186_there {p} {r} (h:F186 p=some r) (h0:r.1.2.2.1=0):∃ a b,F154 (((r.1.1.1,r.1.1.2.1,()),()),())=some ((a,b,true,()),()):=by
 unfold F186 at h
 obtain ⟨p1,-,h⟩:=Option.bind_eq_some_iff.1 h
 by_cases c1:p1.2.1.2.2.1=0
 ·rw [dTt c1,Bool.not_true,cFf] at h
  obtain ⟨r2,-,h⟩:=Option.bind_eq_some_iff.1 h
  obtain ⟨p3,-,h⟩:=Option.bind_eq_some_iff.1 h
  obtain ⟨p5,h5,h⟩:=Option.bind_eq_some_iff.1 h
  obtain ⟨r4,h4,h5⟩:=Option.bind_eq_some_iff.1 h5
  simp only [oSi] at h5
  obtain ⟨p7,h7,hh⟩:=Option.bind_eq_some_iff.1 h
  clear h
  subst h5
  simp only at h7
  cases hc:(!decide (p3.1.2.2.2.1=0)||!r4.1.2.2.1)
  ·have hok:r4.1.2.2.1=true:=by
    rw [Bool.or_eq_false_iff] at hc
    simpa using hc.2
   rw [hc,Bool.not_false,cTt] at h7
   have h7':p7.2.2.2.1=(p3.2.2.2.1.1,p3.2.2.2.1.2.1,()):=by
    by_cases hz:(0:Int)<=p3.2.1.2.2.2.2.2.2.2.2.1
    ·rw [dTt hz,cTt] at h7
     obtain ⟨r6,-,h7⟩:=Option.bind_eq_some_iff.1 h7
     simp only [oSi] at h7
     rw [<- h7]
    ·rw [dFf hz,cFf] at h7
     simp only [oSi] at h7
     rw [<- h7]
   cases hd:p7.1.2.2.2.1
   ·rw [hd,cFf] at hh
    obtain ⟨p8,h8,hh⟩:=Option.bind_eq_some_iff.1 hh
    simp only [oSi] at h8 hh
    subst h8
    subst hh
    obtain ⟨⟨x1,x2,x3,⟨⟩⟩,q⟩:=r4
    simp only at hok
    subst hok
    simp only [h7']
    exact ⟨_,_,h4⟩
   ·rw [hd,cTt] at hh
    simp only [oSi] at hh
    subst hh
    simp at h0
  ·rw [hc,Bool.not_true,cFf] at h7
   simp only [oSi] at h7
   have:p7.1.2.2.2.1=true:=by rw [<- h7]
   rw [this,cTt] at hh
   simp only [oSi] at hh
   subst hh
   simp at h0
 ·rw [dFf c1,Bool.not_false,cTt] at h
  simp only [oSi] at h
  subst h
  exact absurd h0 c1
theorem F137_there {p} {r} (h:F137 p=some r) (h0:r.1.2.2.1=0):∃ a b,F154 (((r.1.1.1,r.1.1.2.1,()),()),())=some ((a,b,true,()),()):=by
 unfold F137 at h
 obtain ⟨_,-,h⟩:=Option.bind_eq_some_iff.1 h
 obtain ⟨_,-,h⟩:=Option.bind_eq_some_iff.1 h
 obtain ⟨_,-,h⟩:=Option.bind_eq_some_iff.1 h
 obtain ⟨_,-,h⟩:=Option.bind_eq_some_iff.1 h
 obtain ⟨_,-,h⟩:=Option.bind_eq_some_iff.1 h
 obtain ⟨_,-,h⟩:=Option.bind_eq_some_iff.1 h
 obtain ⟨_,-,h⟩:=Option.bind_eq_some_iff.1 h
 obtain ⟨_,-,h⟩:=Option.bind_eq_some_iff.1 h
 obtain ⟨_,-,h⟩:=Option.bind_eq_some_iff.1 h
 obtain ⟨_,-,h⟩:=Option.bind_eq_some_iff.1 h
 obtain ⟨_,-,h⟩:=Option.bind_eq_some_iff.1 h
 obtain ⟨_,-,h⟩:=Option.bind_eq_some_iff.1 h
 obtain ⟨r22,h22,h⟩:=Option.bind_eq_some_iff.1 h
 simp only [oSi] at h
 subst h
 exact F186_there h22 h0
end Go.Qy
namespace Go.Qd
open Go Go.Ev Go.Qy
set_option maxRecDepth 100000
section
def wid (s:List UInt8):Nat:=(Go.Lib.decodeGo ⟨s.toArray⟩).2
def lets:Nat->List UInt8->Ls
 | 0,_=>[]
 | n+1,s=>if s=[] then [] else s.take (wid s)::lets n (s.drop (wid s))
theorem wid_eq {s:List UInt8} (h:s≠[]):wid s=(Lib.decodeL s).2:=by
 unfold wid Lib.decodeGo
 have:¬ (⟨s.toArray⟩:ByteArray).size=0:=by
  show ¬ s.toArray.size=0
  simpa using h
 rw [if_neg this]
 rfl
theorem decodeN_4 (n b0 b1 b2 b3:Nat):(Lib.decodeN n b0 b1 b2 b3).2<=4:=by
 unfold Lib.decodeN
 repeat' split
 all_goals simp
theorem wid_pos {s:List UInt8} (h:s≠[]):1<=wid s/\wid s<=s.length/\wid s<=4:=by
 rw [wid_eq h]
 exact ⟨Lib.decodeL_width s,Lib.decodeL_le s h,by rw [Lib.decodeL_N];exact decodeN_4 _ _ _ _ _⟩
theorem wid_big {s:List UInt8} (h:s≠[]) (h2:2<=wid s):128<=(s.getD 0 0).toNat:=by
 cases s with
 | nil=>exact absurd rfl h
 | cons b t =>
  rcases Nat.lt_or_ge b.toNat 128 with hb | hb
  ·rw [wid_eq h,Lib.decodeL_ascii b t hb] at h2
   exact absurd h2 (by simp)
  ·exact hb
theorem wid_at {s:List UInt8} {i:Nat} (h:i<s.length):(Utf8.decode ⟨s.toArray⟩ i).2=wid (s.drop i):=by
 have hne:s.drop i≠[]:=by
  intro he
  have:=congrArg List.length he
  rw [List.length_drop,List.length_nil] at this
  omega
 rw [wid_eq hne,<- Lib.decodeL_drop]
theorem lets_good:∀ (n:Nat) (s:List UInt8),Good (lets n s)
 | 0,s=>⟨λc h=>(by cases h),λc h=>(by cases h),λc h=>(by cases h)⟩
 | n+1,s=>by
  unfold lets
  by_cases h:s=[]
  ·rw [if_pos h];exact ⟨λc h=>(by cases h),λc h=>(by cases h),λc h=>(by cases h)⟩
  ·rw [if_neg h]
   have ih:=lets_good n (s.drop (wid s))
   obtain ⟨h1,h2,h3⟩:=wid_pos h
   have hl:(s.take (wid s)).length=wid s:=by rw [List.length_take];omega
   refine ⟨λc hc=>?_,λc hc=>?_,λc hc hb=>?_⟩
   ·rcases List.mem_cons.1 hc with rfl | hc
    ·intro he;rw [he] at hl;simp at hl;omega
    ·exact ih.ne c hc
   ·rcases List.mem_cons.1 hc with rfl | hc
    ·rw [hl];exact h3
    ·exact ih.le c hc
   ·rcases List.mem_cons.1 hc with rfl | hc
    ·rw [hl] at hb
     have:=wid_big h hb
     cases s with
     | nil=>exact absurd rfl h
     | cons b t =>
      have:(List.take (wid (b::t)) (b::t)).getD 0 0=b:=by
       obtain ⟨m,hm⟩:∃ m,wid (b::t)=m+1:=⟨wid (b::t)-1,by omega⟩
       rw [hm];rfl
      rw [this];assumption
    ·exact ih.big c hc hb
theorem lets_len:∀ (n:Nat) (s:List UInt8),(lets n s).length<=n
 | 0,s=>by simp [lets]
 | n+1,s=>by
  unfold lets
  split
  ·simp
  ·simp only [List.length_cons]
   have:=lets_len n (s.drop (wid s));omega
theorem lets_nil (n:Nat):lets n []=[]:=by cases n <;> simp [lets]
theorem bytes16 {n:Nat} (h:n<=2000000):bytesOK n 16=true:=by
 unfold bytesOK
 simp
 omega
theorem F97_eq {s:List UInt8} (hs:s.length<=1100000):F97 ((s,()),())=some ((),(lets s.length s,())):=by
 obtain ⟨r,h1,h2⟩:=loop_ind (f:=B97_0) (λp=>∃ (t:List UInt8) (out:Ls) (n:Nat),p=((t,(),()),(out,()))/\t.length<=n/\out.length+n<=s.length/\out++lets n t=lets s.length s) (λp=>p.1.1.length)
  (λr=>r=(((),()),(lets s.length s,())))
  (λp ⟨t,out,n,hp,ht,ho,hl⟩=>by
   subst hp
   by_cases h0:t=[]
   ·right
    subst h0
    rw [lets_nil,List.append_nil] at hl
    exact ⟨_,by rw [<- hl];rfl,rfl⟩
   ·left
    obtain ⟨w1,w2,w3⟩:=wid_pos h0
    have hwd:(Go.Lib.decodeGo ⟨List.toArray t⟩).2=wid t:=rfl
    have hpos:0<t.length:=List.length_pos_iff.2 h0
    obtain ⟨n,rfl⟩:∃ m,n=m+1:=⟨n-1,by omega⟩
    have c1:decide ((0:Int)<((t.length:Nat):Int))=true:=dTt (by omega)
    have c2:decide ((0:Int)<=((wid t:Nat):Int))=true:=dTt (by omega)
    have c3:decide (((wid t:Nat):Int)<=((t.length:Nat):Int))=true:=dTt (by omega)
    have c4:bytesOK (out.length+[List.take (wid t) t].length) 16=true:=bytes16 (by simp;omega)
    refine ⟨((t.drop (wid t),(),()),(out++[t.take (wid t)],())),?_,⟨t.drop (wid t),out++[t.take (wid t)],n,rfl,by rw [List.length_drop];omega,by simp;omega,?_⟩,?_⟩
    ·simp only [B97_0,hwd,c1,cTt,c2,c3,nCt,c4,bAs,oBs,Int.le_refl,dTr]
     rw [List.take_of_length_le (by simp)]
    ·rw [<- hl]
     simp only [lets]
     rw [if_neg h0]
     simp
    ·simp only [List.length_drop];omega)
  (p:=((s,(),()),([],()))) ⟨s,[],s.length,rfl,Nat.le_refl _,by simp,rfl⟩ (by unfold FUEL;simp only;omega)
 subst h2
 have h1':L97_0 ((s,(),()),([],()))=some (((),()),(lets s.length s,())):=h1
 simp only [F97,h1',oBs]
theorem F208_eq {s:List UInt8} (hs:s.length<=1100000):F208 ((s,()),())=some ((),(lets s.length s,())):=by
 by_cases hse:s=[]
 ·subst hse
  rfl
 obtain ⟨r,h1,fr,out,n,h2,h3,h4,h5⟩:=loop_ind (f:=B208_0) (λp=>∃ (fr i:Nat) (out:Ls) (n:Nat),p=((s,(),(fr:Int),(),()),(out,(s,i),()))/\i<=s.length/\((i=0/\fr=0/\out=[]/\n=s.length)\/(fr<i/\i=fr+wid (s.drop fr)/\fr<s.length))/\out.length+n<=s.length/\s.length-fr<=n/\out++lets n (s.drop fr)=lets s.length s)
  (λp=>s.length-p.2.2.1.2)
  (λr=>∃ (fr:Nat) (out:Ls) (n:Nat),r=((s,(),(fr:Int),()),(out,()))/\fr<s.length/\(out.length+1<=s.length)/\out++[s.drop fr]=lets s.length s)
  (λp ⟨fr,i,out,n,hp,hi,hc,ho,hn,hl⟩=>by
   subst hp
   by_cases hlt:i<s.length
   ·left
    have c1:decide (i<s.length)=true:=dTt hlt
    have hw:=wid_at hlt
    have hne:s.drop i≠[]:=by
     intro he
     have:=congrArg List.length he
     rw [List.length_drop,List.length_nil] at this
     omega
    obtain ⟨w1,w2,w3⟩:=wid_pos hne
    rw [List.length_drop] at w2
    rcases hc with ⟨rfl,rfl,rfl,rfl⟩ | ⟨hfi,hie,hfl⟩
    ·have c2:decide ((0:Int)<((0:Nat):Int))=false:=by simp
     refine ⟨((s,(),((0:Nat):Int),(),()),([],(s,0+wid (s.drop 0)),())),?_,⟨0,0+wid (s.drop 0),[],s.length,rfl,by omega,.inr ⟨by omega,rfl,hlt⟩,ho,hn,hl⟩,by simp only;omega⟩
     simp only [B208_0,c1,cTt,c2,cFf,hw]
    ·have c2:decide ((0:Int)<((i:Nat):Int))=true:=dTt (by omega)
     have c3:decide ((0:Int)<=(fr:Int))=true:=dTt (by omega)
     have c4:decide ((fr:Int)<=((i:Nat):Int))=true:=dTt (by omega)
     have c5:decide (((i:Nat):Int)<=((s.length:Nat):Int))=true:=dTt (by omega)
     obtain ⟨n,rfl⟩:∃ m,n=m+1:=⟨n-1,by omega⟩
     have c6:bytesOK (out.length+[List.take (i-fr) (List.drop fr s)].length) 16=true:=bytes16 (by simp;omega)
     refine ⟨((s,(),(i:Int),(),()),(out++[List.take (i-fr) (List.drop fr s)],(s,i+wid (s.drop i)),())),?_,⟨i,i+wid (s.drop i),_,n,rfl,by omega,.inr ⟨by omega,rfl,hlt⟩,by simp;omega,by omega,?_⟩,by simp only;omega⟩
     ·simp only [B208_0,c1,cTt,c2,c3,c4,c5,nCt,c6,bAs,oBs,hw]
     ·rw [<- hl]
      have hfne:s.drop fr≠[]:=by
       intro he
       have:=congrArg List.length he
       rw [List.length_drop,List.length_nil] at this
       omega
      simp only [lets]
      rw [if_neg hfne,List.drop_drop,<- hie,show i-fr=wid (s.drop fr) by omega]
      simp
   ·right
    have c1:decide (i<s.length)=false:=dFf hlt
    have hie:i=s.length:=by omega
    have hpos:0<s.length:=List.length_pos_iff.2 hse
    rcases hc with ⟨h0,_⟩ | ⟨hfi,hiw,hfl⟩
    ·omega
    ·obtain ⟨n,rfl⟩:∃ m,n=m+1:=⟨n-1,by omega⟩
     refine ⟨_,by simp only [B208_0,c1,cFf] <;> rfl,fr,out,n,rfl,hfl,by omega,?_⟩
     rw [<- hl]
     have hfne:s.drop fr≠[]:=by
      intro he
      have:=congrArg List.length he
      rw [List.length_drop,List.length_nil] at this
      omega
     simp only [lets]
     rw [if_neg hfne,List.drop_drop,<- hiw,hie,List.drop_length,lets_nil,List.take_of_length_le (by rw [List.length_drop];omega)])
  (p:=((s,(),0,(),()),([],(s,0),()))) ⟨0,0,[],s.length,rfl,Nat.zero_le _,.inl ⟨rfl,rfl,rfl,rfl⟩,by simp,by omega,by simp⟩ (by unfold FUEL;simp only;omega)
 subst h2
 have h1':L208_0 ((s,(),0,(),()),([],(s,0),()))=some ((s,(),(fr:Int),()),(out,())):=h1
 have c0:=dFf hse
 have c3:decide ((0:Int)<=(fr:Int))=true:=dTt (by omega)
 have c4:decide ((fr:Int)<=((s.length:Nat):Int))=true:=dTt (by omega)
 have e1:List.take (s.length-fr) (List.drop fr s)=s.drop fr:=List.take_of_length_le (by rw [List.length_drop];omega)
 have c6:bytesOK (out.length+[s.drop fr].length) 16=true:=bytes16 (by simp;omega)
 simp only [F208,h1',oBs,c0,Bool.not_false,cTt,c3,c4,Int.le_refl,dTr,bAs,nCt,e1,c6,h5]
end
section
variable {l:Ls} {a:Nat}
theorem lt_of {s:List UInt8} (hs:s.length<=1100000):∃ l,Lt s l :=
 ⟨lets s.length s,F208_eq hs,F97_eq hs,lets_good _ _,by have:=lets_len s.length s;omega⟩
end
end Go.Qd
namespace Go.Qy
open Go Go.Ev
set_option maxRecDepth 100000
theorem sent2 (v:List UInt8) (hv:v.length<=1100000):∃ (t:Int×Int×Unit) (a e f y m d n n':Int),F137 ((v,()),())=some ((t,a,e,()),())/\F61 ((v,()),())=some ((t,a,e,()),()) /\
  F138 ((t,()),())=some (((y,m,d,()),f,()),())/\F62 ((t,()),())=some (((y,m,d,()),f,()),())/\F43 (((y,m,d,()),()),())=some ((n,n',()),())/\F63 (((y,m,d,()),()),())=some ((n,n',()),())/\(e=0->f=0):=by
 obtain ⟨l,hl⟩:=Go.Qd.lt_of hv
 obtain ⟨r,h1,h2⟩:=Go.Qd.parse_law hl
 have ht:=F137_there h1
 obtain ⟨⟨⟨s,z,⟨⟩⟩,a,e,⟨⟩⟩,⟨⟩⟩:=r
 simp only at ht
 rcases here2 s z with ⟨p,q,y,m,d,k1,k2,k3⟩ | ⟨p,q,k1,k2,k3⟩
 ·obtain ⟨n,n',d1,d2⟩:=days2 y m d
  exact ⟨(s,z,()),a,e,0,y,m,d,n,n',h1,h2,k2,k3,d1,d2,λ_=>rfl⟩
 ·obtain ⟨n,n',d1,d2⟩:=days2 0 0 0
  refine ⟨(s,z,()),a,e,2,0,0,0,n,n',h1,h2,k2,k3,d1,d2,λh=>?_⟩
  obtain ⟨p',q',h'⟩:=ht h
  rw [h'] at k1
  simp at k1
noncomputable def sentN (vs:List (List UInt8)):Int:=match F137 ((vs.getD 0 [],()),()) with
 | some r=>match F138 ((r.1.1,()),()) with
  | some h=>match F43 ((h.1.1,()),()) with
   | some d=>d.1.1
   | none=>0
  | none=>0
 | none=>0
noncomputable def sentOK (vs:List (List UInt8)):Bool:=!vs.isEmpty&&match F137 ((vs.getD 0 [],()),()) with
 | some r=>decide (r.1.2.2.1=0)
 | none=>false
noncomputable def dayN (y m d:Int):Int:=match F43 (((y,m,d,()),()),()) with
 | some r=>r.1.1
 | none=>0
noncomputable def onD (vs:List (List UInt8)) (op y m d:Int):Bool:=sentOK vs&&(if op=8 then decide (sentN vs<dayN y m d) else if op=9 then decide (sentN vs=dayN y m d) else decide (dayN y m d<=sentN vs))
def dateW:List UInt8:=[100,97,116,101]
theorem F84_eq (X:LX) (hf:X.2.2.2.2.2.2.1.length<=1100000) (hn:∀ f∈X.2.2.2.2.2.2.1,f.1.length<=maxLen) (hv:∀ v∈Go.Qh.alls X.2.2.2.2.2.2.1 dateW,v.length<=1100000) :
  F84 ((X,()),())=some ((sentN (Go.Qh.alls X.2.2.2.2.2.2.1 dateW),sentOK (Go.Qh.alls X.2.2.2.2.2.2.1 dateW),()),()):=by
 have hm:maxLen=9223372036854775807:=rfl
 have hg:=Go.Qh.F136_eq X.2.2.2.2.2.2.1 dateW hf (by rw [hm];decide) hn
 have hg':F136 ((X.2.2.2.2.2.2.1,([100,97,116,101]:List UInt8),()),())=_:=hg
 generalize Go.Qh.alls X.2.2.2.2.2.2.1 dateW=vs at hg' hv
 have h0:(vs.getD 0 []).length<=1100000:=by
  cases vs with
  | nil=>simp
  | cons v t=>exact hv v (by simp)
 obtain ⟨t,a,e,f,y,m,d,n,n',s1,s2,s3,s4,s5,s6,s7⟩:=sent2 (vs.getD 0 []) h0
 have e1:sentN vs=n:=by unfold sentN;simp only [s1,s3,s5]
 have e2:sentOK vs=(!vs.isEmpty&&decide (e=0)):=by unfold sentOK;simp only [s1]
 rw [e1,e2]
 simp only [F84,hg',oBs,s1,s3,s5]
 by_cases he:e=0
 ·rw [he,s7 he];simp
 ·simp [he]
theorem F43_day (y m d:Int):∃ e,F43 (((y,m,d,()),()),())=some ((dayN y m d,e,()),())/\F63 (((y,m,d,()),()),())=some ((dayN y m d,e,()),()):=by
 obtain ⟨n,e,h1,h2⟩:=days2 y m d
 have:dayN y m d=n:=by unfold dayN;simp only [h1]
 rw [this]
 exact ⟨e,h1,h2⟩
theorem F47_eq (X:LX) (k:Key) (hf:X.2.2.2.2.2.2.1.length<=1100000) (hn:∀ f∈X.2.2.2.2.2.2.1,f.1.length<=maxLen) (hv:∀ v∈Go.Qh.alls X.2.2.2.2.2.2.1 dateW,v.length<=1100000) :
  F47 ((X,kf k,()),())=some (onD (Go.Qh.alls X.2.2.2.2.2.2.1 dateW) k.1 k.2.2.2.2.1.1 k.2.2.2.2.1.2.1 k.2.2.2.2.1.2.2.1,()):=by
 obtain ⟨e,h1,_⟩:=F43_day k.2.2.2.2.1.1 k.2.2.2.2.1.2.1 k.2.2.2.2.1.2.2.1
 unfold onD kf
 simp only [F47,F84_eq X hf hn hv,oBs,h1]
 by_cases h8:k.1=8
 ·simp [h8]
 ·by_cases h9:k.1=9
  ·simp [h9]
  ·simp [h8,h9]
theorem F50_eq (v:List UInt8) (k:Key) (hv:v.length<=1100000) (ht:k.2.2.2.2.2.2.1.length<=1100000):F50 ((v,(),()),(kf k,()))=some (hold v k.2.2.2.2.2.2.1,(kf k,())):=by
 unfold kf
 simp only [F50,F51_eq v _ hv ht,oBs]
theorem F48_eq (vs:List (List UInt8)) (k:Key) (hl:vs.length<=1100000) (hv:∀ v∈vs,v.length<=1100000) (ht:k.2.2.2.2.2.2.1.length<=1100000) :
  F48c50 ((vs,((),()),()),(kf k,()))=some (vs.any (λv=>hold v k.2.2.2.2.2.2.1),(kf k,())):=by
 have hF:=FUEL_big
 have hw:=walk_listI (f:=B85c50_0) (λ(j:Nat) i=>((vs,((),()),((vs.length:Nat):Int),(i:Int),()),(kf k,()))) vs
  (λv j=>if hold v k.2.2.2.2.2.2.1=true then .inr (.inr ((((),()),(j:Int),()),(kf k,()))) else .inl (j+1)) (λ_=>.inl ((((),()),()),(kf k,()))) (λj i=>j=i) (b:=0)
  (λj i a hI hi ha=>by
   subst hI
   have hm:a∈vs:=by have:=ha [];rw [List.getD_eq_getElem?_getD,List.getElem?_eq_getElem hi] at this;simp at this;rw [<- this];exact List.getElem_mem hi
   have d0:decide ((j:Int)<((vs.length:Nat):Int))=true:=dTt (by omega)
   have d1:decide ((0:Int)<=(j:Int))=true:=dTt (by omega)
   have w1:w64 ((j:Int)+1)=((j+1:Nat):Int):=by rw [w64_id (by omega) (by omega)];rfl
   have hf:=F50_eq a k (hv a hm) ht
   unfold kf at hf ⊢
   cases h:hold a k.2.2.2.2.2.2.1
   ·rw [h] at hf
    exact .inl ⟨_,if_neg (by simp),rfl,by simp only [B85c50_0,d0,d1,bAs,cTt,nCt,ha,hf,oBs,cFf,w1]⟩
   ·rw [h] at hf
    exact .inr ⟨_,if_pos rfl,by simp only [B85c50_0,d0,d1,bAs,cTt,nCt,ha,hf,oBs]⟩)
  (λj _=>by
   have d0:decide (((vs.length:Nat):Int)<((vs.length:Nat):Int))=false:=by simp
   unfold kf
   simp only [B85c50_0,d0,cFf]) (by omega) rfl
 have hw':L85c50_0 ((vs,((),()),((vs.length:Nat):Int),0,()),(kf k,()))=_:=hw
 have hfold:∀ (M:List (List UInt8)) (j:Nat),(M.any (λv=>hold v k.2.2.2.2.2.2.1)=true->∃ i:Nat,foldS (λv j=>if hold v k.2.2.2.2.2.2.1=true then .inr (.inr ((((),()),(j:Int),()),(kf k,()))) else .inl (j+1)) (λ_=>(.inl ((((),()),()),(kf k,())):(((Unit×Unit)×Unit)×(KF×Unit))⊕(((Unit×Unit)×Int×Unit)×(KF×Unit)))) j M=.inr ((((),()),(i:Int),()),(kf k,()))) /\
   (M.any (λv=>hold v k.2.2.2.2.2.2.1)=false->foldS (λv j=>if hold v k.2.2.2.2.2.2.1=true then .inr (.inr ((((),()),(j:Int),()),(kf k,()))) else .inl (j+1)) (λ_=>(.inl ((((),()),()),(kf k,())):(((Unit×Unit)×Unit)×(KF×Unit))⊕(((Unit×Unit)×Int×Unit)×(KF×Unit)))) j M=.inl ((((),()),()),(kf k,()))):=by
  intro M
  induction M with
  | nil=>exact λj=>⟨λh=>by simp at h,λ_=>rfl⟩
  | cons a M ih =>
   intro j
   cases h:hold a k.2.2.2.2.2.2.1
   ·simp only [List.any_cons,h,Bool.false_or,foldS,Bool.false_eq_true,if_false]
    exact ih (j+1)
   ·simp only [List.any_cons,h,Bool.true_or,foldS,if_true]
    exact ⟨λ_=>⟨j,rfl⟩,λh=>by simp at h⟩
 obtain ⟨q1,q2⟩:=hfold vs 0
 cases hA:vs.any (λv=>hold v k.2.2.2.2.2.2.1)
 ·rw [q2 hA] at hw'
  unfold kf at hw' ⊢
  simp only [F48c50,F85c50,hw',oBs]
  rfl
 ·obtain ⟨i,hi⟩:=q1 hA
  rw [hi] at hw'
  unfold kf at hw' ⊢
  have d:decide ((0:Int)<=(i:Int))=true:=dTt (by omega)
  simp only [F48c50,F85c50,hw',oBs,d]
end Go.Qy
namespace Go.Qy
open Go Go.Ev
set_option maxRecDepth 100000
theorem flag_eq (a b:UInt8) (h:flg b=true):decide ((a/b) % 2=1)=!decide (a &&& b=0):=by
 have k1:∀ i:Fin 256,decide ((UInt8.ofNat i.val/1) % 2=1)=!decide (UInt8.ofNat i.val &&& 1=0):=by decide
 have k2:∀ i:Fin 256,decide ((UInt8.ofNat i.val/2) % 2=1)=!decide (UInt8.ofNat i.val &&& 2=0):=by decide
 have k4:∀ i:Fin 256,decide ((UInt8.ofNat i.val/4) % 2=1)=!decide (UInt8.ofNat i.val &&& 4=0):=by decide
 have k8:∀ i:Fin 256,decide ((UInt8.ofNat i.val/8) % 2=1)=!decide (UInt8.ofNat i.val &&& 8=0):=by decide
 have k16:∀ i:Fin 256,decide ((UInt8.ofNat i.val/16) % 2=1)=!decide (UInt8.ofNat i.val &&& 16=0):=by decide
 have ha:UInt8.ofNat a.toNat=a:=by simp
 unfold flg at h
 simp only [Bool.or_eq_true,dTe] at h
 rcases h with (((rfl | rfl) | rfl) | rfl) | rfl
 ·have:=k1 ⟨a.toNat,a.toNat_lt⟩;rwa [ha] at this
 ·have:=k2 ⟨a.toNat,a.toNat_lt⟩;rwa [ha] at this
 ·have:=k4 ⟨a.toNat,a.toNat_lt⟩;rwa [ha] at this
 ·have:=k8 ⟨a.toNat,a.toNat_lt⟩;rwa [ha] at this
 ·have:=k16 ⟨a.toNat,a.toNat_lt⟩;rwa [ha] at this
theorem flg_ne {b:UInt8} (h:flg b=true):decide (b≠0)=true:=by
 unfold flg at h
 simp only [Bool.or_eq_true,dTe] at h
 rcases h with (((rfl | rfl) | rfl) | rfl) | rfl <;> decide
def fld (b:List UInt8):List Go.Qh.Fld:=if (Go.Qh.split b).2.2.1=0 then (Go.Qh.split b).1 else []
def atB (b:List UInt8):Nat:=if (Go.Qh.split b).2.2.1=0 then (Go.Qh.split b).2.1.toNat else 0
theorem fld_ok (b:List UInt8) (hb:b.length<=1100000):(fld b).length<=40/\(∀ f∈fld b,f.1.length<=1100000/\f.2.1.length<=1100000)/\atB b<=b.length:=by
 obtain ⟨h1,h2,h3⟩:=Go.Qh.split_ok b
 unfold fld atB
 by_cases h:(Go.Qh.split b).2.2.1=0
 ·rw [if_pos h,if_pos h]
  have:=h1 h
  exact ⟨h2,λf hf=>by have:=h3 f hf;omega,by omega⟩
 ·rw [if_neg h,if_neg h]
  exact ⟨by simp,λf hf=>by simp at hf,by omega⟩
theorem alls_small {b:List UInt8} (hb:b.length<=1100000) (name:List UInt8):(Go.Qh.alls (fld b) name).length<=40/\∀ v∈Go.Qh.alls (fld b) name,v.length<=1100000:=by
 obtain ⟨h1,h2,_⟩:=fld_ok b hb
 refine ⟨?_,λv hv=>?_⟩
 ·unfold Go.Qh.alls
  rw [List.length_map]
  exact Nat.le_trans (List.length_filter_le _ _) h1
 ·obtain ⟨f,hf,rfl⟩:=Go.Qh.alls_mem hv
  exact (h2 f hf).2
def rd (x:SX):LX:=(x.1,x.2.1,x.2.2.1,x.2.2.2.1,x.2.2.2.2.1,x.2.2.2.2.2.1,fld x.2.2.2.2.2.1,x.2.2.2.2.2.1.drop (atB x.2.2.2.2.2.1),())
theorem take_rest (b:List UInt8) (n:Nat):(b.drop n).take (b.length-n)=b.drop n:=List.take_of_length_le (by simp)
theorem F16_eq (x:SX) (hb:x.2.2.2.2.2.1.length<=1100000):F16 ((x,()),())=some (rd x,()):=by
 obtain ⟨N,most,last,uid,fl,b,⟨⟩⟩:=x
 simp only at hb
 unfold rd
 simp only
 have hs:=Go.Qh.F29_eq b hb
 have ho:=(Go.Qh.split_ok b).1
 unfold fld atB
 obtain ⟨⟨F,at',e,⟨⟩⟩,hsp⟩:∃ s,Go.Qh.split b=s:=⟨_,rfl⟩
 rw [hsp] at hs ho ⊢
 simp only at ho ⊢
 by_cases he:e=0
 ·obtain ⟨h1,h2⟩:=ho he
  have c:(decide ((0:Int)<=at')&&decide (at'<=((b.length:Nat):Int))&&decide (((b.length:Nat):Int)<=((b.length:Nat):Int)))=true:=by simp;omega
  simp only [F16,hs,oBs,dTt he,Bool.not_true,cFf,c,cTt,nCt,take_rest,if_pos he]
 ·have c:(decide ((0:Int)<=0)&&decide ((0:Int)<=((b.length:Nat):Int))&&decide (((b.length:Nat):Int)<=((b.length:Nat):Int)))=true:=by simp
  have t:(b.drop (Int.toNat 0)).take (b.length-Int.toNat 0)=b.drop 0:=take_rest b 0
  simp only [F16,hs,oBs,dFf he,Bool.not_false,cTt,c,nCt,t,if_neg he]
noncomputable def gx (x:SX) (k:Key):Bool :=
 if k.1=2 then !decide (x.2.2.2.2.1 &&& k.2.1=0)
 else if k.1=3 then decide (x.2.2.2.2.1 &&& k.2.1=0)
 else if k.1=4 then decide (k.2.2.1<((x.2.2.2.2.2.1.length:Nat):Int))
 else if k.1=5 then decide (((x.2.2.2.2.2.1.length:Nat):Int)<k.2.2.1)
 else if k.1=6 then memb k.2.2.2.1 x.1 x.2.1
 else if k.1=7 then memb k.2.2.2.1 x.2.2.2.1 x.2.2.1
 else if k.1=8\/k.1=9\/k.1=10 then onD (Go.Qh.alls (fld x.2.2.2.2.2.1) dateW) k.1 k.2.2.2.2.1.1 k.2.2.2.2.1.2.1 k.2.2.2.2.1.2.2.1
 else if k.1=11 then (Go.Qh.alls (fld x.2.2.2.2.2.1) k.2.2.2.2.2.1).any (λv=>hold v k.2.2.2.2.2.2.1)
 else if k.1=12 then hold (x.2.2.2.2.2.1.drop (atB x.2.2.2.2.2.1)) k.2.2.2.2.2.2.1
 else if k.1=13 then hold x.2.2.2.2.2.1 k.2.2.2.2.2.2.1
 else true
theorem F28_eq (x:SX) (k:Key) (hb:x.2.2.2.2.2.1.length<=1100000) (hk:small k):F28 ((rd x,kf k,()),())=some (gx x k,()):=by
 have hm:maxLen=9223372036854775807:=rfl
 obtain ⟨k1,k2,k3⟩:=hk
 obtain ⟨f1,f2,f3⟩:=fld_ok x.2.2.2.2.2.1 hb
 have h47:=F47_eq (rd x) k (by show (fld _).length<=_;omega) (λf hf=>by have:=(f2 f hf).1;omega) (alls_small hb dateW).2
 have h49:=Go.Qh.F49_eq (fld x.2.2.2.2.2.1) k.2.2.2.2.2.1 (by omega) (by omega) (λf hf=>by have:=(f2 f hf).1;omega)
 obtain ⟨a1,a2⟩:=alls_small hb k.2.2.2.2.2.1
 have h48:=F48_eq (Go.Qh.alls (fld x.2.2.2.2.2.1) k.2.2.2.2.2.1) k (by omega) a2 k3
 have h51:=F51_eq (x.2.2.2.2.2.1.drop (atB x.2.2.2.2.2.1)) k.2.2.2.2.2.2.1 (by simp;omega) k3
 have h51':=F51_eq x.2.2.2.2.2.1 k.2.2.2.2.2.2.1 hb k3
 have h46:=F46_eq k.2.2.2.1 x.1 x.2.1 k1
 have h46':=F46_eq k.2.2.2.1 x.2.2.2.1 x.2.2.1 k1
 unfold gx
 unfold rd kf at *
 rcases (by omega:k.1=2\/k.1=3\/k.1=4\/k.1=5\/k.1=6\/k.1=7\/k.1=8\/k.1=9\/k.1=10\/k.1=11\/k.1=12\/k.1=13\/(k.1≠2/\k.1≠3/\k.1≠4/\k.1≠5/\k.1≠6/\k.1≠7/\k.1≠8/\k.1≠9/\k.1≠10/\k.1≠11/\k.1≠12/\k.1≠13)) with h | h | h | h | h | h | h | h | h | h | h | h | ⟨b1,b2,b3,b4,b5,b6,b7,b8,b9,b10,b11,b12⟩
 ·simp [F28,h]
 ·simp [F28,h]
 ·simp [F28,h]
 ·simp [F28,h]
 ·simp [F28,h,h46]
 ·simp [F28,h,h46']
 ·simp only [h] at h47 ⊢; simp [F28,h47]
 ·simp only [h] at h47 ⊢; simp [F28,h47]
 ·simp only [h] at h47 ⊢; simp [F28,h47]
 ·simp only [h] at h48 ⊢; simp [F28,h49,h48]
 ·simp [F28,h,h51]
 ·simp [F28,h,h51']
 ·simp [F28,b1,b2,b3,b4,b5,b6,b7,b8,b9,b10,b11,b12]
end Go.Qy
namespace Go.Qy
open Go Go.Ev
set_option maxRecDepth 100000
theorem L31_eq (vs:List (List UInt8)) (k:Key) (hl:vs.length<=1100000) (hv:∀ v∈vs,v.length<=1100000) (ht:k.2.2.2.2.2.2.1.length<=1100000) :
  L31_0 (((),vs,0,()),(kf k,()))=some (if vs.any (λv=>hold v k.2.2.2.2.2.2.1)=true then .inr (((),()),()) else .inl ((),())):=by
 have hF:=FUEL_big
 have hw:=walk_list (f:=B31_0) (λ(_:Unit) i=>(((),vs,(i:Int),()),(kf k,()))) vs (λv _=>if hold v k.2.2.2.2.2.2.1=true then .inr (.inr (((),()),())) else .inl ()) (λ_=>.inl ((),()))
  (λ_ i a hi ha=>by
   have hm:a∈vs:=by have:=ha [];rw [List.getD_eq_getElem?_getD,List.getElem?_eq_getElem hi] at this;simp at this;rw [<- this];exact List.getElem_mem hi
   have d0:decide ((i:Int)<((vs.length:Nat):Int))=true:=dTt (by omega)
   have d1:decide ((0:Int)<=(i:Int))=true:=dTt (by omega)
   have w1:w64 ((i:Int)+1)=((i+1:Nat):Int):=by rw [w64_id (by omega) (by omega)];rfl
   have hf:=F59_eq a k.2.2.2.2.2.2.1 (hv a hm) ht
   unfold kf
   cases h:hold a k.2.2.2.2.2.2.1
   ·rw [h] at hf
    simp only [B31_0,d0,d1,bAs,cTt,nCt,ha,hf,oBs,cFf,w1,Bool.false_eq_true,if_false]
   ·rw [h] at hf
    simp only [B31_0,d0,d1,bAs,cTt,nCt,ha,hf,oBs,if_true])
  (λ_=>by
   have d0:decide (((vs.length:Nat):Int)<((vs.length:Nat):Int))=false:=by simp
   simp only [B31_0,d0,cFf]) (by omega) (b:=())
 have hfold:∀ M:List (List UInt8),foldS (λv (_:Unit)=>if hold v k.2.2.2.2.2.2.1=true then .inr (.inr (((),()),())) else .inl ()) (λ_=>(.inl ((),()):(Unit×Unit)⊕((Unit×Unit)×Unit))) () M =
   if M.any (λv=>hold v k.2.2.2.2.2.2.1)=true then .inr (((),()),()) else .inl ((),()):=by
  intro M
  induction M with
  | nil=>rfl
  | cons a M ih =>
   cases h:hold a k.2.2.2.2.2.2.1
   ·simp only [foldS,h,Bool.false_eq_true,if_false,List.any_cons,Bool.false_or]
    exact ih
   ·simp only [foldS,h,if_true,List.any_cons,Bool.true_or]
 rw [hfold] at hw
 exact hw
theorem lf_flag {k:Key} (h:lfK k=true) (h2:k.1=2\/k.1=3):flg k.2.1=true:=by
 unfold lfK lf at h
 rw [if_pos h2] at h
 simp only [bAt] at h
 exact h.1
theorem F31_eq (x:SX) (k:Key) (hb:x.2.2.2.2.2.1.length<=1100000) (hk:small k) (hlf:lfK k=true):F31 ((kf k,x,()),())=some (gx x k,()):=by
 have hm:maxLen=9223372036854775807:=rfl
 obtain ⟨k1,k2,k3⟩:=hk
 obtain ⟨f1,f2,f3⟩:=fld_ok x.2.2.2.2.2.1 hb
 have h60:=Go.Qh.F60_eq (fld x.2.2.2.2.2.1) k.2.2.2.2.2.1 (by omega) (by omega) (λf hf=>by have:=(f2 f hf).1;omega)
 have h60':F60 ((fld x.2.2.2.2.2.1,([100,97,116,101]:List UInt8),()),())=some (Go.Qh.alls (fld x.2.2.2.2.2.1) dateW,()):=Go.Qh.F60_eq (fld x.2.2.2.2.2.1) dateW (by omega) (by rw [hm];decide) (λf hf=>by have:=(f2 f hf).1;omega)
 obtain ⟨a1,a2⟩:=alls_small hb k.2.2.2.2.2.1
 obtain ⟨a3,a4⟩:=alls_small hb dateW
 have h31:=L31_eq (Go.Qh.alls (fld x.2.2.2.2.2.1) k.2.2.2.2.2.1) k (by omega) a2 k3
 have h59:=F59_eq (x.2.2.2.2.2.1.drop (atB x.2.2.2.2.2.1)) k.2.2.2.2.2.2.1 (by simp;omega) k3
 have h59':=F59_eq x.2.2.2.2.2.1 k.2.2.2.2.2.2.1 hb k3
 have h58:=F58_eq k.2.2.2.1 x.1 x.2.1 k1
 have h58':=F58_eq k.2.2.2.1 x.2.2.2.1 x.2.2.1 k1
 have hs:=Go.Qh.F57_eq x.2.2.2.2.2.1 hb
 have ho:=(Go.Qh.split_ok x.2.2.2.2.2.1).1
 have hsp:∃ r1,F57 ((x.2.2.2.2.2.1,()),())=some r1/\(∀ {β:Type} (K:List Go.Qh.Fld->Int->β),(cond (!(decide (r1.1.2.2.1=0))) (K [] 0) (K r1.1.1 r1.1.2.1))=K (fld x.2.2.2.2.2.1) ((atB x.2.2.2.2.2.1:Nat):Int)):=by
  refine ⟨_,hs,λK=>?_⟩
  unfold fld atB
  by_cases he:(Go.Qh.split x.2.2.2.2.2.1).2.2.1=0
  ·have:=ho he
   have e:(((Go.Qh.split x.2.2.2.2.2.1).2.1.toNat:Nat):Int)=(Go.Qh.split x.2.2.2.2.2.1).2.1:=by omega
   simp only [if_pos he,e,dTt he,Bool.not_true,cFf]
  ·simp only [if_neg he,dFf he,Bool.not_false,cTt]
   rfl
 obtain ⟨r1,hr1,hK⟩:=hsp
 have hK':=hK (λF a=>(some (((),(),x.2.2.2.2.2.1,F,a,()),(kf k,x,())):Option ((Unit×Unit×List UInt8×List Go.Qh.Fld×Int×Unit)×(KF×SX×Unit))))
 have c1:(decide ((0:Int)<=((atB x.2.2.2.2.2.1:Nat):Int))&&decide (((atB x.2.2.2.2.2.1:Nat):Int)<=((x.2.2.2.2.2.1.length:Nat):Int))&&decide (((x.2.2.2.2.2.1.length:Nat):Int)<=((x.2.2.2.2.2.1.length:Nat):Int)))=true:=by simp;omega
 have t1:=take_rest x.2.2.2.2.2.1 (atB x.2.2.2.2.2.1)
 unfold F31
 simp only [hr1,oBs]
 rw [hK']
 simp only [oBs]
 unfold gx
 rcases (by omega:k.1=2\/k.1=3\/k.1=4\/k.1=5\/k.1=6\/k.1=7\/(k.1=8\/k.1=9\/k.1=10)\/k.1=11\/k.1=12\/k.1=13\/(k.1≠2/\k.1≠3/\k.1≠4/\k.1≠5/\k.1≠6/\k.1≠7/\k.1≠8/\k.1≠9/\k.1≠10/\k.1≠11/\k.1≠12/\k.1≠13)) with h | h | h | h | h | h | h | h | h | h | ⟨b1,b2,b3,b4,b5,b6,b7,b8,b9,b10,b11,b12⟩
 ·have hf:=lf_flag hlf (.inl h)
  have hz:k.2.1≠0:=by simpa using flg_ne hf
  have n2:=flag_eq x.2.2.2.2.1 k.2.1 hf
  unfold kf
  simp [h,hz,n2]
 ·have hf:=lf_flag hlf (.inr h)
  have hz:k.2.1≠0:=by simpa using flg_ne hf
  have n2:=flag_eq x.2.2.2.2.1 k.2.1 hf
  unfold kf
  simp [h,hz,n2]
 ·unfold kf;simp [h]
 ·unfold kf;simp [h]
 ·unfold kf;simp [h,h58]
 ·unfold kf;simp [h,h58']
 ·generalize Go.Qh.alls (fld x.2.2.2.2.2.1) dateW=vs at h60' a3 a4
  have h0:(vs.getD 0 []).length<=1100000:=by
   cases vs with
   | nil=>simp
   | cons v t=>exact a4 v (by simp)
  obtain ⟨t,a,e,f,y,m,d,n,n',s1,s2,s3,s4,s5,s6,s7⟩:=sent2 (vs.getD 0 []) h0
  obtain ⟨e',d1,d2⟩:=F43_day k.2.2.2.2.1.1 k.2.2.2.2.1.2.1 k.2.2.2.2.1.2.2.1
  have e1:sentN vs=n:=by unfold sentN;simp only [s1,s3,s5]
  have e2:sentOK vs=(!vs.isEmpty&&decide (e=0)):=by unfold sentOK;simp only [s1]
  unfold onD kf
  rw [e1,e2]
  cases vs with
  | nil=>rcases h with h | h | h <;> simp [h,h60']
  | cons v vt =>
   simp only [List.getD_cons_zero] at s2
   have p0:(0:Int)<(vt.length:Int)+1:=by omega
   have p1:¬ ((vt.length:Int)+1=0):=by omega
   rcases h with h | h | h
   ·by_cases he:e=0 <;> simp [h,h60',s2,s4,s6,d2,he]
   ·by_cases he:e=0 <;> simp [h,h60',s2,s4,s6,d2,he]
   ·by_cases he:e=0 <;> simp [h,h60',s2,s4,s6,d2,he]
 ·cases hA:(Go.Qh.alls (fld x.2.2.2.2.2.1) k.2.2.2.2.2.1).any (λv=>hold v k.2.2.2.2.2.2.1)
  ·rw [hA,if_neg (by simp)] at h31
   unfold kf at h31 ⊢
   simp only [h] at h31
   simp [h,h60,h31]
  ·rw [hA,if_pos rfl] at h31
   unfold kf at h31 ⊢
   simp only [h] at h31
   simp [h,h60,h31]
 ·unfold kf;simp [h,t1,h59,f3]
 ·unfold kf;simp [h,h59']
 ·unfold kf;simp [b1,b2,b3,b4,b5,b6,b7,b8,b9,b10,b11,b12]
end Go.Qy
namespace Go.Qy
open Go Go.Ev
set_option maxRecDepth 100000
theorem eval2 (l:List Key) (x:SX) (hl:∀ k∈l,small k) (hb:x.2.2.2.2.2.1.length<=1100000):∃ r:Bool×Int×Unit,F6 ((l,x,()),())=some (r,())/\F7 ((l,x,()),())=some (r,())/\r.2.1=chk l:=by
 have h14:=F14_eq l hl
 have h9:=F9_eq l hl
 by_cases hc:chk l=0
 ·obtain ⟨b1,b2⟩:=both (g:=gx x) hc (rd x) x (λk hk _ _=>F28_eq x k hb (hl k hk)) (λk hk hlf _=>F31_eq x k hb (hl k hk) hlf)
  refine ⟨((st (gx x) l l.length).getD 0 false,0,()),?_,?_,hc.symm⟩
  ·simp only [F6,h14,oBs,hc,dTr,Bool.not_true,cFf,F16_eq x hb,b1]
  ·simp only [F7,h9,oBs,hc,dTr,Bool.not_true,cFf,b2]
 ·refine ⟨(false,chk l,()),?_,?_,rfl⟩
  ·simp only [F6,h14,oBs,dFf hc,Bool.not_false,cTt]
  ·simp only [F7,h9,oBs,dFf hc,Bool.not_false,cTt]
theorem sum_mem {α:Type} (g:α->Nat):∀ (l:List α) (x:α),x∈l->g x<=(l.map g).sum
 | a::l,x,h=>by
  rw [List.map_cons,List.sum_cons]
  rcases List.mem_cons.mp h with rfl | h
  ·omega
  ·have:=sum_mem g l x h;omega
theorem small_of {l:List Key} (h:sizD (.sl KT) l<=1100000):∀ k∈l,small k:=λk hk=>by
 have h1:(List.map (sizD KT) l).sum<=1100000:=h
 have h2:=sum_mem (sizD KT) l k hk
 obtain ⟨op,fl,n,st,⟨y,m,d,⟨⟩⟩,nm,tx,⟨⟩⟩:=k
 have h3:1+(1+(1+((st.length+1)+((1+(1+(1+0)))+((nm.length+1)+((tx.length+1)+0))))))<=(List.map (sizD KT) l).sum:=h2
 exact ⟨by simp only;omega,by simp only;omega,by simp only;omega⟩
abbrev ST:Ty:=(.pair (.int .i64) (.pair (.int .i64) (.pair (.int .i64) (.pair (.pair (.int .i64) (.pair .u8 (.pair (.sl .u8) .unit))) .unit))))
theorem small_x {x:ST.den} (h:sizD ST x<=1100000):x.2.2.2.1.2.2.1.length<=1100000:=by
 obtain ⟨N,most,last,⟨uid,fl,b,⟨⟩⟩,⟨⟩⟩:=x
 have h1:1+(1+(1+((1+(1+(sizD (.sl .u8) b+0)))+0)))<=1100000:=h
 rw [sizD_u8] at h1
 simp only
 omega
end Go.Qy
