/- Texts that the last one leans on, 10. -/
import Derived.Test.YtncpngfaimipdaaGreatLI
namespace Go.Fo
open Go Go.Ev
set_option maxRecDepth 100000
theorem F426_some {n:Nat} {l:List UInt8} {q:List UInt8×List UInt8} (hn:n<=100000) (h:tak n l=some q):F426 (((),(n:Int),()),((l,false,()),()))=some ((),((q.2,false,()),q.1,())):=by
 unfold tak at h
 split at h
 ·cases h
 ·rename_i h'
  cases h
  have c0:decide (((l.length:Nat):Int)<(n:Int))=false:=zz (by omega)
  have c1:decide ((0:Int)<=(n:Int))=true:=zW (by omega)
  have c2:decide ((n:Int)<=((l.length:Nat):Int))=true:=zW (by omega)
  have hb:zC (0+(l.take n).length) 1=true:=zT (by rw [y4];omega)
  simp only [F426,c0,Bool.or_self,zJ,c1,c2,Int.le_refl,zU,z8,zG,zr,hb,zE,List.nil_append]
  rw [show (l.drop n).take (l.length-n)=l.drop n from List.take_of_length_le (by rw [tB];omega)]
theorem F426_none {n:Nat} {l:List UInt8} (h:tak n l=none):F426 (((),(n:Int),()),((l,false,()),()))=some ((),((l,true,()),[],())):=by
 unfold tak at h
 split at h
 ·rename_i h'
  have c0:decide (((l.length:Nat):Int)<(n:Int))=true:=zW (by omega)
  simp only [F426,c0,Bool.or_true,zG]
 ·cases h
theorem yw (n:Int) (l:List UInt8):F426 (((),n,()),((l,true,()),()))=some ((),((l,true,()),[],())):=by
 simp only [F426,Bool.true_or,zG]
theorem xR {n:Nat} {l:List UInt8} {q:Nat×List UInt8} (hn:n<=4) (h:vu n l=some q):F427 (((),(n:Int),()),((l,false,()),()))=some ((q.1:Int),((q.2,false,()),())):=by
 unfold vu at h
 split at h
 ·cases h
 ·rename_i h'
  cases h
  have e:=F426_some (q:=(l.take n,l.drop n)) (n:=n) (l:=l) (by omega) (by unfold tak;rw [if_neg h'])
  have ht:(l.take n).length=n:=by rw [y4];omega
  simp only [F427,e,zE,L427_eq (l.drop n) (l.take n) false (by omega)]
theorem L427_nil (l:List UInt8) (off:Bool):L427_0 (((),(),(0:Int),(0:Int),()),((l,off,()),[],()))=some (((),(0:Int),()),((l,off,()),())):=L427_eq l [] off (Nat.zero_le _)
theorem xS {n:Nat} {l:List UInt8} (h:vu n l=none):F427 (((),(n:Int),()),((l,false,()),()))=some (0,((l,true,()),())):=by
 have e:F426 (((),(n:Int),()),((l,false,()),()))=some ((),((l,true,()),[],())):=F426_none (by
  unfold vu at h
  unfold tak
  split at h
  ·rename_i h';rw [if_pos h']
  ·cases h)
 simp only [F427,e,zE,L427_nil]
theorem y6 (n:Int) (l:List UInt8):F427 (((),n,()),((l,true,()),()))=some (0,((l,true,()),())):=by
 simp only [F427,yw,zE,L427_nil]
abbrev BnU:Type:=Tx×Int×Int×Unit×Unit
abbrev stL (c0 i0:Int) (cnt i:Nat) (l:List UInt8) (off:Bool) (N:NmT) (B:BnU) (e5 e6:List Bx) (ls:List yO) :
  ((Unit×Unit×Unit×Int×Int×Unit×Int×Int×Unit)×((Unit×Unit×Unit×Unit)×(List UInt8×Bool×Unit)×NmT×BnU×List Bx×List Bx×List yO×Unit)) :=
 (((),(),(),c0,i0,(),(cnt:Int),(i:Int),()),(((),(),(),()),(l,off,()),N,B,e5,e6,ls,()))
theorem B399_1_go (c0 i0:Int) (cnt i:Nat) (l:List UInt8) (nn:Tx) (nv:Int) (bn:Tx) (bv bx:Int) (e5 e6:List Bx) (ls:List yO) (h:i<cnt) (hc:cnt<=255) (hl:ls.length<=i) :
  ∃ a l2 off,uM (stL c0 i0 cnt i l false (nn,nv,(),()) (bn,bv,bx,(),()) e5 e6 ls)=some (.inl (stL c0 i0 cnt (i+1) l2 off (nn,nv,(),()) (bn,bv,bx,(),()) e5 e6 (ls++[a]))) /\
   (off=false->ltr1 l=some (a,l2))/\(off=true->ltr1 l=none):=by
 have d0:decide ((i:Int)<(cnt:Int))=true:=zW (by omega)
 have w1:zX ((i:Int)+1)=((i+1:Nat):Int):=by rw [zO (by omega) (by omega)];rfl
 have hb:∀ x:yO,zC (ls.length+[x].length) 40=true:=λx=>zT (by simp only [va];omega)
 cases h1:vu 4 l with
 | none =>
  have e1:=xS h1
  rw [show ((4:Nat):Int)=4 from rfl] at e1
  exact ⟨_,_,true,by simp only [stL,uM,d0,yq,z8,zG,e1,zE,y6,yw,hb,w1];rfl,nofun,λ_=>by simp [ltr1,h1]⟩
 | some r1 =>
 have e1:=xR (by omega) h1
 rw [show ((4:Nat):Int)=4 from rfl] at e1
 cases h2:vu 1 r1.2 with
 | none =>
  have e2:=xS h2
  rw [show ((1:Nat):Int)=1 from rfl] at e2
  exact ⟨_,_,true,by simp only [stL,uM,d0,yq,z8,zG,e1,e2,zE,y6,yw,hb,w1];rfl,nofun,λ_=>by simp [ltr1,h1,h2]⟩
 | some r2 =>
 have e2:=xR (by omega) h2
 rw [show ((1:Nat):Int)=1 from rfl] at e2
 cases h3:vu 2 r2.2 with
 | none =>
  have e3:=xS h3
  rw [show ((2:Nat):Int)=2 from rfl] at e3
  exact ⟨_,_,true,by simp only [stL,uM,d0,yq,z8,zG,e1,e2,e3,zE,yw,hb,w1];rfl,nofun,λ_=>by simp [ltr1,xZ,h1,h2,h3]⟩
 | some r3 =>
 have e3:=xR (by omega) h3
 rw [show ((2:Nat):Int)=2 from rfl] at e3
 have hk:=up h3
 cases h4:tak r3.1 r3.2 with
 | none =>
  have e4:=F426_none h4
  exact ⟨_,_,true,by simp only [stL,uM,d0,yq,z8,zG,e1,e2,e3,e4,zE,hb,w1];rfl,nofun,λ_=>by simp [ltr1,xZ,h1,h2,h3,h4]⟩
 | some r4 =>
  have e4:=F426_some (by omega) h4
  exact ⟨_,_,false,by simp only [stL,uM,d0,yq,z8,zG,e1,e2,e3,e4,zE,hb,w1];rfl,λ_=>by simp [ltr1,xZ,h1,h2,h3,h4],nofun⟩
theorem L399_1_eq (l:List UInt8) (N:NmT) (B:BnU) (c0 i0:Int) (e5 e6:List Bx) (cnt:Nat) (hc:cnt<=255) :
  ∃ l' off ls',L399_1 (stL c0 i0 cnt 0 l false N B e5 e6 [])=some (((),(),(),c0,i0,(),()),(((),(),(),()),(l',off,()),N,B,e5,e6,ls',())) /\
   (off=false->wF cnt l=some (ls',l'))/\(off=true->wF cnt l=none):=by
 obtain ⟨nn,nv,⟨⟩,⟨⟩⟩:=N
 obtain ⟨bn,bv,bx,⟨⟩,⟨⟩⟩:=B
 have hF:=zK
 suffices h:∃ r,L399_1 (stL c0 i0 cnt 0 l false (nn,nv,(),()) (bn,bv,bx,(),()) e5 e6 [])=some r/\∃ l' off ls',r=(((),(),(),c0,i0,(),()),(((),(),(),()),(l',off,()),(nn,nv,(),()),(bn,bv,bx,(),()),e5,e6,ls',())) /\
   (off=false->wF cnt l=some (ls',l'))/\(off=true->wF cnt l=none) by
  obtain ⟨r,h1,l',off,ls',rfl,h2⟩:=h
  exact ⟨l',off,ls',h1,h2⟩
 unfold L399_1
 refine yE (f:=uM) (λp=>∃ (i:Nat) (l':List UInt8) (off:Bool) (ls:List yO),i<=cnt/\ls.length<=i/\p=stL c0 i0 cnt i l' off (nn,nv,(),()) (bn,bv,bx,(),()) e5 e6 ls /\
   (off=false->wF cnt l=(wF (cnt-i) l').bind λq=>some (ls++q.1,q.2))/\(off=true->wF cnt l=none)) (λp=>cnt-p.1.2.2.2.2.2.2.2.1.toNat) _ ?_
  ⟨0,l,false,[],Nat.zero_le _,Nat.le_refl _,rfl,λ_=>by rw [Nat.sub_zero];cases wF cnt l <;> simp,nofun⟩ (by simp only;omega)
 rintro p ⟨i,l',off,ls,hi,hl,rfl,h1,h2⟩
 cases off with
 | true =>
  refine .inr ⟨_,?_,l',true,ls,rfl,nofun,λ_=>h2 rfl⟩
  simp only [uM,zu,Bool.and_false,zJ]
 | false =>
  rcases Nat.lt_or_ge i cnt with h | h
  ·obtain ⟨a,l2,off,e,h3,h4⟩:=B399_1_go c0 i0 cnt i l' nn nv bn bv bx e5 e6 ls h hc hl
   refine .inl ⟨_,e,⟨i+1,l2,off,ls++[a],h,by rw [yU,va];omega,rfl,λho=>?_,λho=>?_⟩,?_⟩
   ·exact ltrs_split h (h3 ho) (h1 rfl)
   ·exact ltrs_stop h (h4 ho) (h1 rfl)
   ·simp only [];omega
  ·have hi':i=cnt:=by omega
   subst hi'
   refine .inr ⟨_,?_,l',false,ls,rfl,λ_=>ltrs_end (h1 rfl),nofun⟩
   simp only [uM,Int.lt_irrefl,yp,Bool.false_and,zJ]
abbrev stB (cnt i:Nat) (l:List UInt8) (off:Bool) (N:NmT) (e5 e6:List Bx) :
  ((Unit×Unit×Unit×Int×Int×Unit)×((Unit×Unit×Unit×Unit)×(List UInt8×Bool×Unit)×NmT×List Bx×List Bx×Unit)) :=
 (((),(),(),(cnt:Int),(i:Int),()),(((),(),(),()),(l,off,()),N,e5,e6,()))
theorem B399_0_go (cnt i:Nat) (l:List UInt8) (nn:Tx) (nv:Int) (e5 ls:List Bx) (h:i<cnt) (hc:cnt<=255) (hl:ls.length<=i) :
  ∃ a l2 off,vN (stB cnt i l false (nn,nv,(),()) e5 ls)=some (.inl (stB cnt (i+1) l2 off (nn,nv,(),()) e5 (ls++[a]))) /\
   (off=false->uu l=some (a,l2))/\(off=true->uu l=none):=by
 have d0:decide ((i:Int)<(cnt:Int))=true:=zW (by omega)
 have w1:zX ((i:Int)+1)=((i+1:Nat):Int):=by rw [zO (by omega) (by omega)];rfl
 have hb:∀ x:Bx,zC (ls.length+[x].length) 56=true:=λx=>zT (by simp only [va];omega)
 have hz:∀ (l:List UInt8) (B:BnU),L399_1 (((),(),(),(cnt:Int),(i:Int),(),(0:Int),(0:Int),()),(((),(),(),()),(l,true,()),(nn,nv,(),()),B,e5,ls,([]:List yO),()))=some (((),(),(),(cnt:Int),(i:Int),(),()),(((),(),(),()),(l,true,()),(nn,nv,(),()),B,e5,ls,[],())):=λl B=>by
  unfold L399_1 zP
  have:yn=(yn-1)+1:=by have:=zK;omega
  rw [this,iter]
  simp only [uM,Int.lt_irrefl,yp,Bool.false_and,zJ]
 cases h0:vu 1 l with
 | none =>
  have e0:=xS h0
  rw [show ((1:Nat):Int)=1 from rfl] at e0
  exact ⟨_,_,true,by simp only [stB,vN,d0,yq,z8,zG,e0,zE,y6,yw,hz,hb,w1];rfl,nofun,λ_=>by simp [uu,xZ,h0]⟩
 | some r0 =>
 have e0:=xR (by omega) h0
 rw [show ((1:Nat):Int)=1 from rfl] at e0
 have hk0:=up h0
 cases h1:tak r0.1 r0.2 with
 | none =>
  have e1:=F426_none h1
  exact ⟨_,_,true,by simp only [stB,vN,d0,yq,z8,zG,e0,e1,zE,y6,hz,hb,w1];rfl,nofun,λ_=>by simp [uu,xZ,h0,h1]⟩
 | some r1 =>
 have e1:=F426_some (by omega) h1
 cases h2:vu 4 r1.2 with
 | none =>
  have e2:=xS h2
  rw [show ((4:Nat):Int)=4 from rfl] at e2
  exact ⟨_,_,true,by simp only [stB,vN,d0,yq,z8,zG,e0,e1,e2,zE,y6,hz,hb,w1];rfl,nofun,λ_=>by simp [uu,xZ,h0,h1,h2]⟩
 | some r2 =>
 have e2:=xR (by omega) h2
 rw [show ((4:Nat):Int)=4 from rfl] at e2
 cases h3:vu 4 r2.2 with
 | none =>
  have e3:=xS h3
  rw [show ((4:Nat):Int)=4 from rfl] at e3
  exact ⟨_,_,true,by simp only [stB,vN,d0,yq,z8,zG,e0,e1,e2,e3,zE,y6,hz,hb,w1];rfl,nofun,λ_=>by simp [uu,xZ,h0,h1,h2,h3]⟩
 | some r3 =>
 have e3:=xR (by omega) h3
 rw [show ((4:Nat):Int)=4 from rfl] at e3
 cases h4:vu 1 r3.2 with
 | none =>
  have e4:=xS h4
  rw [show ((1:Nat):Int)=1 from rfl] at e4
  exact ⟨_,_,true,by simp only [stB,vN,d0,yq,z8,zG,e0,e1,e2,e3,e4,zE,hz,hb,w1];rfl,nofun,λ_=>by simp [uu,xZ,h0,h1,h2,h3,h4]⟩
 | some r4 =>
 have e4:=xR (by omega) h4
 rw [show ((1:Nat):Int)=1 from rfl] at e4
 have hk:=up h4
 obtain ⟨l5,off,ls5,e5',h5,h6⟩:=L399_1_eq r4.2 (nn,nv,(),()) (r1.1,(r2.1:Int),(r3.1:Int),(),()) (cnt:Int) (i:Int) e5 ls r4.1 (by omega)
 simp only [stL] at e5'
 rw [show ((0:Nat):Int)=0 from rfl] at e5'
 exact ⟨_,_,off,by simp only [stB,vN,d0,yq,z8,zG,e0,e1,e2,e3,e4,e5',zE,hb,w1];rfl,λho=>by simp [uu,xZ,h0,h1,h2,h3,h4,h5 ho],λho=>by simp [uu,xZ,h0,h1,h2,h3,h4,h6 ho]⟩
theorem L399_0_eq (l:List UInt8) (N:NmT) (e5:List Bx) (cnt:Nat) (hc:cnt<=255) :
  ∃ l' off ls',L399_0 (stB cnt 0 l false N e5 [])=some (((),(),(),()),(((),(),(),()),(l',off,()),N,e5,ls',())) /\
   (off=false->yg cnt l=some (ls',l'))/\(off=true->yg cnt l=none):=by
 obtain ⟨nn,nv,⟨⟩,⟨⟩⟩:=N
 have hF:=zK
 suffices h:∃ r,L399_0 (stB cnt 0 l false (nn,nv,(),()) e5 [])=some r/\∃ l' off ls',r=(((),(),(),()),(((),(),(),()),(l',off,()),(nn,nv,(),()),e5,ls',())) /\
   (off=false->yg cnt l=some (ls',l'))/\(off=true->yg cnt l=none) by
  obtain ⟨r,h1,l',off,ls',rfl,h2⟩:=h
  exact ⟨l',off,ls',h1,h2⟩
 unfold L399_0
 refine yE (f:=vN) (λp=>∃ (i:Nat) (l':List UInt8) (off:Bool) (ls:List Bx),i<=cnt/\ls.length<=i/\p=stB cnt i l' off (nn,nv,(),()) e5 ls /\
   (off=false->yg cnt l=(yg (cnt-i) l').bind λq=>some (ls++q.1,q.2))/\(off=true->yg cnt l=none)) (λp=>cnt-p.1.2.2.2.2.1.toNat) _ ?_
  ⟨0,l,false,[],Nat.zero_le _,Nat.le_refl _,rfl,λ_=>by rw [Nat.sub_zero];cases yg cnt l <;> simp,nofun⟩ (by simp only;omega)
 rintro p ⟨i,l',off,ls,hi,hl,rfl,h1,h2⟩
 cases off with
 | true =>
  refine .inr ⟨_,?_,l',true,ls,rfl,nofun,λ_=>h2 rfl⟩
  simp only [vN,zu,Bool.and_false,zJ]
 | false =>
  rcases Nat.lt_or_ge i cnt with h | h
  ·obtain ⟨a,l2,off,e,h3,h4⟩:=B399_0_go cnt i l' nn nv e5 ls h hc hl
   refine .inl ⟨_,e,⟨i+1,l2,off,ls++[a],h,by rw [yU,va];omega,rfl,λho=>?_,λho=>?_⟩,?_⟩
   ·exact boxs_split h (h3 ho) (h1 rfl)
   ·exact vg h (h4 ho) (h1 rfl)
   ·simp only [];omega
  ·have hi':i=cnt:=by omega
   subst hi'
   refine .inr ⟨_,?_,l',false,ls,rfl,λ_=>boxs_end (h1 rfl),nofun⟩
   simp only [vN,Int.lt_irrefl,yp,Bool.false_and,zJ]
noncomputable def took (l:List UInt8):wg×Int :=
 match vT l with
 | none=>(([],0,[],()),3)
 | some (u,r)=>if r.length=0 then (match F47 ((u,()),()) with | some (e,_)=>if e=0 then (u,0) else (([],0,[],()),e) | none=>(([],0,[],()),0)) else (([],0,[],()),4)
theorem txt_le {w:Nat} {l:List UInt8} {q:List UInt8×List UInt8} (h:xZ w l=some q):q.1.length<256^w:=by
 unfold xZ at h
 cases h1:vu w l with
 | none=>rw [h1] at h;cases h
 | some r =>
  have:=up h1
  rw [h1,zE] at h
  unfold tak at h
  split at h
  ·cases h
  ·cases h
   rw [y4]
   omega
theorem box_le {l:List UInt8} {b:Bx} {r:List UInt8} (h:uu l=some (b,r)):b.1.length<256:=by
 unfold uu at h
 cases h0:xZ 1 l with
 | none=>rw [h0] at h;cases h
 | some n =>
  have:=txt_le h0
  rw [h0,zE] at h
  cases h1:vu 4 n.2 with
  | none=>rw [h1] at h;cases h
  | some v =>
   rw [h1,zE] at h
   cases h2:vu 4 v.2 with
   | none=>rw [h2] at h;cases h
   | some x =>
    rw [h2,zE] at h
    cases h3:vu 1 x.2 with
    | none=>rw [h3] at h;cases h
    | some c =>
     rw [h3,zE] at h
     cases h4:wF c.1 c.2 with
     | none=>rw [h4] at h;cases h
     | some q =>
      rw [h4,zE] at h
      cases h
      exact this
theorem boxs_le:∀ (n:Nat) {l:List UInt8} {bs:List Bx} {r:List UInt8},yg n l=some (bs,r)->∀ b∈bs,b.1.length<256
 | 0,l,bs,r,h,b,hb=>by
  cases h
  cases hb
 | n+1,l,bs,r,h,b,hb=>by
  simp only [yg] at h
  cases h1:uu l with
  | none=>rw [h1] at h;cases h
  | some q =>
   rw [h1,zE] at h
   cases h2:yg n q.2 with
   | none=>rw [h2] at h;cases h
   | some s =>
    rw [h2,zE] at h
    cases h
    rcases List.mem_cons.1 hb with rfl | hb
    ·exact box_le h1
    ·exact boxs_le n h2 b hb
theorem usr_le {l:List UInt8} {u:wg} {r:List UInt8} (h:vT l=some (u,r)):u.1.length<256/\∀ b∈u.2.2.1,b.1.length<256:=by
 unfold vT at h
 cases h0:xZ 1 l with
 | none=>rw [h0] at h;cases h
 | some n =>
  have:=txt_le h0
  rw [h0,zE] at h
  cases h1:vu 4 n.2 with
  | none=>rw [h1] at h;cases h
  | some v =>
   rw [h1,zE] at h
   cases h2:vu 1 v.2 with
   | none=>rw [h2] at h;cases h
   | some c =>
    rw [h2,zE] at h
    cases h3:yg c.1 c.2 with
    | none=>rw [h3] at h;cases h
    | some q =>
     rw [h3,zE] at h
     cases h
     exact ⟨this,boxs_le _ h3⟩
theorem F75_took (l:List UInt8):F75 ((l,()),())=some (((took l).1,(took l).2,()),()):=by
 have hok:=(rd_ok l).1
 unfold took
 cases h:vT l with
 | none =>
  have e:=rd_none h
  simp only [F75,hok,zG,e,zz (show ¬(3:Int)=0 by omega),zJ,zE,yq]
 | some q =>
  obtain ⟨u,r⟩:=q
  obtain ⟨e1,e2⟩:=rd_some h
  by_cases hr:r.length=0
  ·rw [if_pos hr] at e2
   obtain ⟨e,h4,-⟩:=F47_ex u (Nat.le_trans (Nat.le_of_lt (usr_le h).1) (by decide))
   have hu:((vP l).1,(vP l).2.1,(vP l).2.2.1,())=u:=by rw [e1]
   simp only [F75,hok,zG,e2,zU,hu,h4,zE,hr,↓reduceIte]
   by_cases he:e=0
   ·subst he
    simp []
   ·simp [he]
  ·rw [if_neg hr] at e2
   simp only [F75,hok,zG,e2,zz (show ¬(4:Int)=0 by omega),zJ,zE,yq,hr,↓reduceIte]
theorem F399_took (l:List UInt8):F399 ((l,()),())=some ((((took l).1.1,(took l).1.2.1,(),()),(took l).2,()),((took l).1.2.2.1,())):=by
 unfold took
 have key:∀ (l5:List UInt8) (N:NmT) (bs:List Bx) (off:Bool),∃ x:Unit,x=():=λ_ _ _ _=>⟨(),rfl⟩
 have hz:∀ (l:List UInt8) (N:NmT),L399_0 (((),(),(),(0:Int),(0:Int),()),(((),(),(),()),(l,true,()),N,([]:List Bx),([]:List Bx),()))=some (((),(),(),()),(((),(),(),()),(l,true,()),N,[],[],())):=λl N=>by
  unfold L399_0 zP
  have:yn=(yn-1)+1:=by have:=zK;omega
  rw [this,iter]
  simp only [vN,Int.lt_irrefl,yp,Bool.false_and,zJ]
 cases h0:vu 1 l with
 | none =>
  have e0:=xS h0
  rw [show ((1:Nat):Int)=1 from rfl] at e0
  have hu:vT l=none:=by simp [vT,xZ,h0]
  simp only [F399,e0,zE,yw,y6,hz,zG,hu]
 | some r0 =>
 have e0:=xR (by omega) h0
 rw [show ((1:Nat):Int)=1 from rfl] at e0
 have hk0:=up h0
 cases h1:tak r0.1 r0.2 with
 | none =>
  have e1:=F426_none h1
  have hu:vT l=none:=by simp [vT,xZ,h0,h1]
  simp only [F399,e0,e1,zE,y6,hz,zG,hu]
 | some r1 =>
 have e1:=F426_some (by omega) h1
 cases h2:vu 4 r1.2 with
 | none =>
  have e2:=xS h2
  rw [show ((4:Nat):Int)=4 from rfl] at e2
  have hu:vT l=none:=by simp [vT,xZ,h0,h1,h2]
  simp only [F399,e0,e1,e2,zE,y6,hz,zG,hu]
 | some r2 =>
 have e2:=xR (by omega) h2
 rw [show ((4:Nat):Int)=4 from rfl] at e2
 cases h3:vu 1 r2.2 with
 | none =>
  have e3:=xS h3
  rw [show ((1:Nat):Int)=1 from rfl] at e3
  have hu:vT l=none:=by simp [vT,xZ,h0,h1,h2,h3]
  simp only [F399,e0,e1,e2,e3,zE,hz,zG,hu]
 | some r3 =>
 have e3:=xR (by omega) h3
 rw [show ((1:Nat):Int)=1 from rfl] at e3
 have hk:=up h3
 obtain ⟨l5,off,bs,e5,h5,h6⟩:=L399_0_eq r3.2 (r1.1,(r2.1:Int),(),()) [] r3.1 (by omega)
 simp only [stB] at e5
 rw [show ((0:Nat):Int)=0 from rfl] at e5
 cases off with
 | true =>
  have hu:vT l=none:=by simp [vT,xZ,h0,h1,h2,h3,h6 rfl]
  simp only [F399,e0,e1,e2,e3,e5,zE,zG,hu]
 | false =>
  have hu:vT l=some ((r1.1,(r2.1:Int),bs,()),l5):=by simp [vT,xZ,h0,h1,h2,h3,h5 rfl]
  have hle:=usr_le hu
  have e6:=F347_F44 (r1.1,(r2.1:Int),bs,()) (Nat.le_trans (Nat.le_of_lt hle.1) (by decide)) (λb hb=>Nat.le_trans (Nat.le_of_lt (hle.2 b hb)) (by decide))
  obtain ⟨e,e7,-⟩:=F47_ex (r1.1,(r2.1:Int),bs,()) (Nat.le_trans (Nat.le_of_lt hle.1) (by decide))
  rw [e7] at e6
  by_cases hr:l5.length=0
  ·have c0:decide ((0:Int)<((l5.length:Nat):Int))=false:=zz (by omega)
   simp only [F399,e0,e1,e2,e3,e5,zE,zJ,e6,hu,hr,↓reduceIte,e7]
   by_cases he:e=0
   ·subst he
    simp
   ·simp [he]
  ·have c0:decide ((0:Int)<((l5.length:Nat):Int))=true:=zW (by omega)
   simp only [F399,e0,e1,e2,e3,e5,zE,zJ,c0,zG,hu,hr,↓reduceIte]
theorem not_nil (s:Tx):decide ((0:Int)<((s.length:Nat):Int))=!(decide (s=([]:List UInt8))):=by
 cases s
 ·rfl
 ·simp
theorem zI (c:UInt8):decide (((c.toNat:Nat):Int)=0)=decide (c=0):=by
 rw [decide_eq_decide]
 refine ⟨λh=>UInt8.toNat_inj.1 (by rw [show UInt8.toNat 0=0 from rfl];omega),λh=>by subst h;rfl⟩
theorem zM (c:UInt8):(decide (c=0)||decide (c.toNat<UInt8.toNat 32))=(decide ((0:Int)<=((c.toNat:Nat):Int))&&decide (((c.toNat:Nat):Int)<=31)):=by
 have z:UInt8.toNat 32=32:=rfl
 rw [z,Bool.eq_iff_iff]
 simp only [Bool.or_eq_true,yk,xX]
 constructor
 ·rintro (h | h)
  ·subst h;decide
  ·omega
 ·intro h;right;omega
theorem zH (n:Int):(decide (n=0)||(decide (n=1)||decide (n=2)))=(decide (0<=n)&&decide (n<=2)):=by
 rw [Bool.eq_iff_iff]
 simp only [Bool.or_eq_true,yk,xX]
 omega
theorem zL (n:Int):(decide (n=0)||(decide (0<n)&&decide (n<4)))=(decide (0<=n)&&decide (n<=3)):=by
 rw [Bool.eq_iff_iff]
 simp only [Bool.or_eq_true,yk,xX]
 omega
theorem F85_eq (a:Bool) (n x y:Int):F85 ((a,n,x,y,()),())=some (cond a (decide (x<=n)&&decide (n<=y)) (decide (n=0)),()):=by
 cases a <;> rfl
theorem yu:(∀ b,(true&&b)=b)/\(∀ b,(false&&b)=false)/\(∀ b,(b&&true)=b)/\(∀ b,(b&&false)=false)/\(∀ b,(true||b)=true)/\(∀ b,(false||b)=b)/\(∀ b,(b||true)=true)/\(∀ b,(b||false)=b)/\(!true)=false/\(!false)=true:=by simp
theorem zm:decide ((1:Int)<1)=false/\decide (9<(1:Int))=false/\decide ((1:Int)=3)=false/\decide ((1:Int)=4)=false/\decide ((1:Int)=5)=false/\decide ((1:Int)=6)=false/\decide ((1:Int)=7)=false/\decide ((1:Int)=8)=false/\decide ((1:Int)=9)=false/\decide ((2:Int)<1)=false/\decide (9<(2:Int))=false/\decide ((2:Int)=3)=false/\decide ((2:Int)=4)=false/\decide ((2:Int)=5)=false/\decide ((2:Int)=6)=false/\decide ((2:Int)=7)=false/\decide ((2:Int)=8)=false/\decide ((2:Int)=9)=false/\decide ((3:Int)<1)=false/\decide (9<(3:Int))=false/\decide ((3:Int)=4)=false/\decide ((3:Int)=5)=false/\decide ((3:Int)=6)=false/\decide ((3:Int)=7)=false/\decide ((3:Int)=8)=false/\decide ((3:Int)=9)=false/\decide ((4:Int)<1)=false/\decide (9<(4:Int))=false/\decide ((4:Int)=3)=false/\decide ((4:Int)=5)=false/\decide ((4:Int)=6)=false/\decide ((4:Int)=7)=false/\decide ((4:Int)=8)=false/\decide ((4:Int)=9)=false/\decide ((5:Int)<1)=false/\decide (9<(5:Int))=false/\decide ((5:Int)=3)=false/\decide ((5:Int)=4)=false/\decide ((5:Int)=6)=false/\decide ((5:Int)=7)=false/\decide ((5:Int)=8)=false/\decide ((5:Int)=9)=false/\decide ((6:Int)<1)=false/\decide (9<(6:Int))=false/\decide ((6:Int)=3)=false/\decide ((6:Int)=4)=false/\decide ((6:Int)=5)=false/\decide ((6:Int)=7)=false/\decide ((6:Int)=8)=false/\decide ((6:Int)=9)=false/\decide ((7:Int)<1)=false/\decide (9<(7:Int))=false/\decide ((7:Int)=3)=false/\decide ((7:Int)=4)=false/\decide ((7:Int)=5)=false/\decide ((7:Int)=6)=false/\decide ((7:Int)=8)=false/\decide ((7:Int)=9)=false/\decide ((8:Int)<1)=false/\decide (9<(8:Int))=false/\decide ((8:Int)=3)=false/\decide ((8:Int)=4)=false/\decide ((8:Int)=5)=false/\decide ((8:Int)=6)=false/\decide ((8:Int)=7)=false/\decide ((8:Int)=9)=false/\decide ((9:Int)<1)=false/\decide (9<(9:Int))=false/\decide ((9:Int)=3)=false/\decide ((9:Int)=4)=false/\decide ((9:Int)=5)=false/\decide ((9:Int)=6)=false/\decide ((9:Int)=7)=false/\decide ((9:Int)=8)=false/\(decide ((2:Int)<=1)&&decide ((1:Int)<=7))=false/\(decide ((2:Int)<=8)&&decide ((8:Int)<=7))=false/\(decide ((2:Int)<=9)&&decide ((9:Int)<=7))=false/\(decide ((2:Int)<=2)&&decide ((2:Int)<=7))=true/\(decide ((2:Int)<=3)&&decide ((3:Int)<=7))=true/\(decide ((2:Int)<=4)&&decide ((4:Int)<=7))=true/\(decide ((2:Int)<=5)&&decide ((5:Int)<=7))=true/\(decide ((2:Int)<=6)&&decide ((6:Int)<=7))=true/\(decide ((2:Int)<=7)&&decide ((7:Int)<=7))=true:=by simp
theorem zn:(∀ s:Tx,F64 ((s,()),())=some (zl s,()))/\(∀ a n x y,F85 ((a,n,x,y,()),())=some (cond a (decide (x<=n)&&decide (n<=y)) (decide (n=0)),()))/\(∀ l,F75 ((l,()),())=some (((took l).1,(took l).2,()),())) /\
  (∀ l,F399 ((l,()),())=some ((((took l).1.1,(took l).1.2.1,(),()),(took l).2,()),((took l).1.2.2.1,())))/\(∀ s:Tx,decide ((0:Int)<((s.length:Nat):Int))=!(decide (s=([]:List UInt8)))) :=
 ⟨F64_eq,F85_eq,F75_took,F399_took,not_nil⟩
theorem sF (l:List Int) (b:Bool) (d:Dd) (e:decide (d.1∈l)=b) (hl:l.length<=32):F83 ((l,(),()),(d,()))=some (b,(d,())):=by rw [F83_eq _ _ hl,e]
theorem chk_1 (du db dt:Tx) (uid how:Int) (fl:UInt8) (ds de:Int) (by':Tx) (hu:du.length<=maxLen) (hb:db.length<=1100000) (ht:dt.length<=1100000) :
  uS (((1,du,db,dt,uid,how,fl,ds,de,by',()),()),())=F73 (((1,du,db,dt,uid,how,fl,ds,de,by',()),()),()):=by
 have H l b e h:=sF l b (1,du,db,dt,uid,how,fl,ds,de,by',()) e h
 have h0:=H [2,3,4,5,6,7] false (by simp) (by decide)
 have h1:=H [7] false (by simp) (by decide)
 have h2:=H [5,6] false (by simp) (by decide)
 have h3:=H [5] false (by simp) (by decide)
 have h4:=H [4,5] false (by simp) (by decide)
 have h5:=H [9] false (by simp) (by decide)
 have h6:=H [8,9] false (by simp) (by decide)
 have h7:=H [4] false (by simp) (by decide)
 have h8:=H [4,8] false (by simp) (by decide)
 have h9:=H [8] false (by simp) (by decide)
 have g1:=uw du hu
 have g2:=wa du hu
 have g3:=yV db hb
 have g4:=yV dt ht
 simp only [*,zn,zm,yu,zI,zE,cond,F73,uS]
 all_goals (cases q0:yl du <;> try simp only [*,yu,zE])
 all_goals (cases q1:decide (db=[]) <;> try simp only [*,yu,zE,zU])
 all_goals (cases q2:decide (dt=[]) <;> try simp only [*,yu,zE])
 all_goals (cases q3:decide (uid=0) <;> try simp only [*,yu,zE])
 all_goals (cases q4:decide (how=0) <;> try simp only [*,yu,zE])
 all_goals (cases q5:decide (fl=0) <;> try simp only [*,yu,zE])
 all_goals (cases q6:decide (ds=0) <;> try simp only [*,yu,zE])
 all_goals (cases q7:decide (de=0) <;> try simp only [*,yu,zE])
 all_goals (cases q8:decide (by'=[]) <;> try simp only [*,yu,zE])
theorem chk_2 (du db dt:Tx) (uid how:Int) (fl:UInt8) (ds de:Int) (by':Tx) (hu:du.length<=maxLen) (hb:db.length<=1100000) (ht:dt.length<=1100000) :
  uS (((2,du,db,dt,uid,how,fl,ds,de,by',()),()),())=F73 (((2,du,db,dt,uid,how,fl,ds,de,by',()),()),()):=by
 have H l b e h:=sF l b (2,du,db,dt,uid,how,fl,ds,de,by',()) e h
 have h0:=H [2,3,4,5,6,7] true (by simp) (by decide)
 have h1:=H [7] false (by simp) (by decide)
 have h2:=H [5,6] false (by simp) (by decide)
 have h3:=H [5] false (by simp) (by decide)
 have h4:=H [4,5] false (by simp) (by decide)
 have h5:=H [9] false (by simp) (by decide)
 have h6:=H [8,9] false (by simp) (by decide)
 have h7:=H [4] false (by simp) (by decide)
 have h8:=H [4,8] false (by simp) (by decide)
 have h9:=H [8] false (by simp) (by decide)
 have g1:=uw du hu
 have g2:=wa du hu
 have g3:=yV db hb
 have g4:=yV dt ht
 simp only [*,zn,zm,yu,zI,zE,cond,F73,uS]
 all_goals (cases q0:yl du <;> try simp only [*,yu,zE])
 all_goals (cases q1:zl db <;> try simp only [*,yu,zE,zU])
 all_goals (cases q2:decide (dt=[]) <;> try simp only [*,yu,zE])
 all_goals (cases q3:decide (uid=0) <;> try simp only [*,yu,zE])
 all_goals (cases q4:decide (how=0) <;> try simp only [*,yu,zE])
 all_goals (cases q5:decide (fl=0) <;> try simp only [*,yu,zE])
 all_goals (cases q6:decide (ds=0) <;> try simp only [*,yu,zE])
 all_goals (cases q7:decide (de=0) <;> try simp only [*,yu,zE])
 all_goals (cases q8:decide (by'=[]) <;> try simp only [*,yu,zE])
theorem chk_3 (du db dt:Tx) (uid how:Int) (fl:UInt8) (ds de:Int) (by':Tx) (hu:du.length<=maxLen) (hb:db.length<=1100000) (ht:dt.length<=1100000) :
  uS (((3,du,db,dt,uid,how,fl,ds,de,by',()),()),())=F73 (((3,du,db,dt,uid,how,fl,ds,de,by',()),()),()):=by
 have H l b e h:=sF l b (3,du,db,dt,uid,how,fl,ds,de,by',()) e h
 have h0:=H [2,3,4,5,6,7] true (by simp) (by decide)
 have h1:=H [7] false (by simp) (by decide)
 have h2:=H [5,6] false (by simp) (by decide)
 have h3:=H [5] false (by simp) (by decide)
 have h4:=H [4,5] false (by simp) (by decide)
 have h5:=H [9] false (by simp) (by decide)
 have h6:=H [8,9] false (by simp) (by decide)
 have h7:=H [4] false (by simp) (by decide)
 have h8:=H [4,8] false (by simp) (by decide)
 have h9:=H [8] false (by simp) (by decide)
 have g1:=uw du hu
 have g2:=wa du hu
 have g3:=yV db hb
 have g4:=yV dt ht
 simp only [*,zn,zm,yu,zI,zE,cond,F73,uS]
 all_goals (cases q0:yl du <;> try simp only [*,yu,zE])
 all_goals (cases q1:zl db <;> try simp only [*,yu,zE,zU])
 all_goals (cases q2:decide (dt=[]) <;> try simp only [*,yu,zE])
 all_goals (cases q3:decide (uid=0) <;> try simp only [*,yu,zE])
 all_goals (cases q4:decide (how=0) <;> try simp only [*,yu,zE])
 all_goals (cases q5:decide (fl=0) <;> try simp only [*,yu,zE])
 all_goals (cases q6:decide (ds=0) <;> try simp only [*,yu,zE])
 all_goals (cases q7:decide (de=0) <;> try simp only [*,yu,zE])
 all_goals (cases q8:decide (by'=[]) <;> try simp only [*,yu,zE])
theorem chk_4 (du db dt:Tx) (uid how:Int) (fl:UInt8) (ds de:Int) (by':Tx) (hu:du.length<=maxLen) (hb:db.length<=1100000) (ht:dt.length<=1100000) :
  uS (((4,du,db,dt,uid,how,fl,ds,de,by',()),()),())=F73 (((4,du,db,dt,uid,how,fl,ds,de,by',()),()),()):=by
 have H l b e h:=sF l b (4,du,db,dt,uid,how,fl,ds,de,by',()) e h
 have h0:=H [2,3,4,5,6,7] true (by simp) (by decide)
 have h1:=H [7] false (by simp) (by decide)
 have h2:=H [5,6] false (by simp) (by decide)
 have h3:=H [5] false (by simp) (by decide)
 have h4:=H [4,5] true (by simp) (by decide)
 have h5:=H [9] false (by simp) (by decide)
 have h6:=H [8,9] false (by simp) (by decide)
 have h7:=H [4] true (by simp) (by decide)
 have h8:=H [4,8] true (by simp) (by decide)
 have h9:=H [8] false (by simp) (by decide)
 have g1:=uw du hu
 have g2:=wa du hu
 have g3:=yV db hb
 have g4:=yV dt ht
 simp only [*,zn,zm,yu,zI,zM,zE,zU,cond,F73,uS]
 all_goals (cases q0:yl du <;> try simp only [*,yu,zE])
 all_goals (cases q1:zl db <;> try simp only [*,yu,zE,zU])
 all_goals (cases q2:decide (dt=[]) <;> try simp only [*,yu,zE])
 all_goals (cases q3:decide (uid=0) <;> try simp only [*,yu,zE])
 all_goals (cases q4:decide (how=0) <;> try simp only [*,yu,zE])
 all_goals (cases q5:(decide ((0:Int)<=((fl.toNat:Nat):Int))&&decide (((fl.toNat:Nat):Int)<=31)) <;> try simp only [*,yu,zE])
 all_goals (cases q6:decide (ds=0) <;> try simp only [*,yu,zE])
 all_goals (cases q7:decide (de=0) <;> try simp only [*,yu,zE])
 all_goals (cases q8:decide ((600:Int)<((by'.length:Nat):Int)) <;> try simp only [*,zE])
theorem chk_5 (du db dt:Tx) (uid how:Int) (fl:UInt8) (ds de:Int) (by':Tx) (hu:du.length<=maxLen) (hb:db.length<=1100000) (ht:dt.length<=1100000) :
  uS (((5,du,db,dt,uid,how,fl,ds,de,by',()),()),())=F73 (((5,du,db,dt,uid,how,fl,ds,de,by',()),()),()):=by
 have H l b e h:=sF l b (5,du,db,dt,uid,how,fl,ds,de,by',()) e h
 have h0:=H [2,3,4,5,6,7] true (by simp) (by decide)
 have h1:=H [7] false (by simp) (by decide)
 have h2:=H [5,6] true (by simp) (by decide)
 have h3:=H [5] true (by simp) (by decide)
 have h4:=H [4,5] true (by simp) (by decide)
 have h5:=H [9] false (by simp) (by decide)
 have h6:=H [8,9] false (by simp) (by decide)
 have h7:=H [4] false (by simp) (by decide)
 have h8:=H [4,8] false (by simp) (by decide)
 have h9:=H [8] false (by simp) (by decide)
 have g1:=uw du hu
 have g2:=wa du hu
 have g3:=yV db hb
 have g4:=yV dt ht
 simp only [*,zn,zm,yu,zI,zM,zH,zE,zU,cond,F73,uS]
 all_goals (cases q0:yl du <;> try simp only [*,yu,zE])
 all_goals (cases q1:zl db <;> try simp only [*,yu,zE,zU])
 all_goals (cases q2:decide (dt=[]) <;> try simp only [*,yu,zE])
 all_goals (cases q3:(decide (1<=uid)&&decide (uid<=4294967295)) <;> try simp only [*,yu,zE])
 all_goals (cases q4:(decide (0<=how)&&decide (how<=2)) <;> try simp only [*,yu,zE])
 all_goals (cases q5:(decide ((0:Int)<=((fl.toNat:Nat):Int))&&decide (((fl.toNat:Nat):Int)<=31)) <;> try simp only [*,yu,zE])
 all_goals (cases q6:decide (ds=0) <;> try simp only [*,yu,zE])
 all_goals (cases q7:decide (de=0) <;> try simp only [*,yu,zE])
 all_goals (cases q8:decide (by'=[]) <;> try simp only [*,yu,zE])
theorem chk_6 (du db dt:Tx) (uid how:Int) (fl:UInt8) (ds de:Int) (by':Tx) (hu:du.length<=maxLen) (hb:db.length<=1100000) (ht:dt.length<=1100000) :
  uS (((6,du,db,dt,uid,how,fl,ds,de,by',()),()),())=F73 (((6,du,db,dt,uid,how,fl,ds,de,by',()),()),()):=by
 have H l b e h:=sF l b (6,du,db,dt,uid,how,fl,ds,de,by',()) e h
 have h0:=H [2,3,4,5,6,7] true (by simp) (by decide)
 have h1:=H [7] false (by simp) (by decide)
 have h2:=H [5,6] true (by simp) (by decide)
 have h3:=H [5] false (by simp) (by decide)
 have h4:=H [4,5] false (by simp) (by decide)
 have h5:=H [9] false (by simp) (by decide)
 have h6:=H [8,9] false (by simp) (by decide)
 have h7:=H [4] false (by simp) (by decide)
 have h8:=H [4,8] false (by simp) (by decide)
 have h9:=H [8] false (by simp) (by decide)
 have g1:=uw du hu
 have g2:=wa du hu
 have g3:=yV db hb
 have g4:=yV dt ht
 simp only [*,zn,zm,yu,zI,zE,zU,cond,F73,uS]
 all_goals (cases q0:yl du <;> try simp only [*,yu,zE])
 all_goals (cases q1:zl db <;> try simp only [*,yu,zE,zU])
 all_goals (cases q2:decide (dt=[]) <;> try simp only [*,yu,zE])
 all_goals (cases q3:(decide (1<=uid)&&decide (uid<=4294967295)) <;> try simp only [*,yu,zE])
 all_goals (cases q4:decide (how=0) <;> try simp only [*,yu,zE])
 all_goals (cases q5:decide (fl=0) <;> try simp only [*,yu,zE])
 all_goals (cases q6:decide (ds=0) <;> try simp only [*,yu,zE])
 all_goals (cases q7:decide (de=0) <;> try simp only [*,yu,zE])
 all_goals (cases q8:decide (by'=[]) <;> try simp only [*,yu,zE])
theorem chk_7 (du db dt:Tx) (uid how:Int) (fl:UInt8) (ds de:Int) (by':Tx) (hu:du.length<=maxLen) (hb:db.length<=1100000) (ht:dt.length<=1100000) :
  uS (((7,du,db,dt,uid,how,fl,ds,de,by',()),()),())=F73 (((7,du,db,dt,uid,how,fl,ds,de,by',()),()),()):=by
 have H l b e h:=sF l b (7,du,db,dt,uid,how,fl,ds,de,by',()) e h
 have h0:=H [2,3,4,5,6,7] true (by simp) (by decide)
 have h1:=H [7] true (by simp) (by decide)
 have h2:=H [5,6] false (by simp) (by decide)
 have h3:=H [5] false (by simp) (by decide)
 have h4:=H [4,5] false (by simp) (by decide)
 have h5:=H [9] false (by simp) (by decide)
 have h6:=H [8,9] false (by simp) (by decide)
 have h7:=H [4] false (by simp) (by decide)
 have h8:=H [4,8] false (by simp) (by decide)
 have h9:=H [8] false (by simp) (by decide)
 have g1:=uw du hu
 have g2:=wa du hu
 have g3:=yV db hb
 have g4:=yV dt ht
 simp only [*,zn,zm,yu,zI,zE,zU,cond,F73,uS]
 all_goals (cases q0:yl du <;> try simp only [*,yu,zE])
 all_goals (cases q1:zl db <;> try simp only [*,yu,zE])
 all_goals (cases q2:zl dt <;> try simp only [*,yu,zE,zU])
 all_goals (cases q3:decide (uid=0) <;> try simp only [*,yu,zE])
 all_goals (cases q4:decide (how=0) <;> try simp only [*,yu,zE])
 all_goals (cases q5:decide (fl=0) <;> try simp only [*,yu,zE])
 all_goals (cases q6:decide (ds=0) <;> try simp only [*,yu,zE])
 all_goals (cases q7:decide (de=0) <;> try simp only [*,yu,zE])
 all_goals (cases q8:decide (by'=[]) <;> try simp only [*,yu,zE])
theorem chk_8 (du db dt:Tx) (uid how:Int) (fl:UInt8) (ds de:Int) (by':Tx) (hu:du.length<=maxLen) (hb:db.length<=1100000) (ht:dt.length<=1100000) :
  uS (((8,du,db,dt,uid,how,fl,ds,de,by',()),()),())=F73 (((8,du,db,dt,uid,how,fl,ds,de,by',()),()),()):=by
 have H l b e h:=sF l b (8,du,db,dt,uid,how,fl,ds,de,by',()) e h
 have h0:=H [2,3,4,5,6,7] false (by simp) (by decide)
 have h1:=H [7] false (by simp) (by decide)
 have h2:=H [5,6] false (by simp) (by decide)
 have h3:=H [5] false (by simp) (by decide)
 have h4:=H [4,5] false (by simp) (by decide)
 have h5:=H [9] false (by simp) (by decide)
 have h6:=H [8,9] true (by simp) (by decide)
 have h7:=H [4] false (by simp) (by decide)
 have h8:=H [4,8] true (by simp) (by decide)
 have h9:=H [8] true (by simp) (by decide)
 have g1:=uw du hu
 have g2:=wa du hu
 have g3:=yV db hb
 have g4:=yV dt ht
 simp only [*,zn,zm,yu,zI,zE,zU,cond,F73,uS]
 all_goals (cases q0:yl du <;> try simp only [*,yu,zE])
 all_goals (cases q1:decide (db=[]) <;> try simp only [*,yu,zE,zU])
 all_goals (cases q2:decide (dt=[]) <;> try simp only [*,yu,zE])
 all_goals (cases q3:decide (uid=0) <;> try simp only [*,yu,zE])
 all_goals (cases q4:decide (how=0) <;> try simp only [*,yu,zE])
 all_goals (cases q5:decide (fl=0) <;> try simp only [*,yu,zE])
 all_goals (cases q6:decide (ds=0) <;> try simp only [*,yu,zE])
 all_goals (cases q7:(decide (1<=de)&&decide (de<=4294967295)) <;> try simp only [*,zn,yu,zE])
 generalize took by'=tk
 obtain ⟨⟨t1,t2,t3,⟨⟩⟩,te⟩:=tk
 simp only
 by_cases he:te=0
 ·subst he
  by_cases hn:t1=du
  ·simp [hn]
  ·simp [hn]
 ·simp [he]
theorem chk_9 (du db dt:Tx) (uid how:Int) (fl:UInt8) (ds de:Int) (by':Tx) (hu:du.length<=maxLen) (hb:db.length<=1100000) (ht:dt.length<=1100000) :
  uS (((9,du,db,dt,uid,how,fl,ds,de,by',()),()),())=F73 (((9,du,db,dt,uid,how,fl,ds,de,by',()),()),()):=by
 have H l b e h:=sF l b (9,du,db,dt,uid,how,fl,ds,de,by',()) e h
 have h0:=H [2,3,4,5,6,7] false (by simp) (by decide)
 have h1:=H [7] false (by simp) (by decide)
 have h2:=H [5,6] false (by simp) (by decide)
 have h3:=H [5] false (by simp) (by decide)
 have h4:=H [4,5] false (by simp) (by decide)
 have h5:=H [9] true (by simp) (by decide)
 have h6:=H [8,9] true (by simp) (by decide)
 have h7:=H [4] false (by simp) (by decide)
 have h8:=H [4,8] false (by simp) (by decide)
 have h9:=H [8] false (by simp) (by decide)
 have g1:=uw du hu
 have g2:=wa du hu
 have g3:=yV db hb
 have g4:=yV dt ht
 simp only [*,zn,zm,yu,zI,zL,zE,zU,cond,F73,uS]
 all_goals (cases q0:yl du <;> try simp only [*,yu,zE])
 all_goals (cases q1:decide (db=[]) <;> try simp only [*,yu,zE,zU])
 all_goals (cases q2:decide (dt=[]) <;> try simp only [*,yu,zE])
 all_goals (cases q3:decide (uid=0) <;> try simp only [*,yu,zE])
 all_goals (cases q4:decide (how=0) <;> try simp only [*,yu,zE])
 all_goals (cases q5:decide (fl=0) <;> try simp only [*,yu,zE])
 all_goals (cases q6:(decide (0<=ds)&&decide (ds<=3)) <;> try simp only [*,yu,zE])
 all_goals (cases q7:(decide (1<=de)&&decide (de<=4294967295)) <;> try simp only [*,yu,zE])
 all_goals (cases q8:decide (by'=[]) <;> try simp only [*,yu,zE])
theorem F397_F73 (d:Dd) (hu:d.2.1.length<=maxLen) (hb:d.2.2.1.length<=1100000) (ht:d.2.2.2.1.length<=1100000):uS ((d,()),())=F73 ((d,()),()):=by
 obtain ⟨dd,du,db,dt,uid,how,fl,ds,de,by',⟨⟩⟩:=d
 by_cases h:1<=dd/\dd<=9
 ·have:dd=1\/dd=2\/dd=3\/dd=4\/dd=5\/dd=6\/dd=7\/dd=8\/dd=9:=by omega
  rcases this with rfl | rfl | rfl | rfl | rfl | rfl | rfl | rfl | rfl
  ·exact chk_1 du db dt uid how fl ds de by' hu hb ht
  ·exact chk_2 du db dt uid how fl ds de by' hu hb ht
  ·exact chk_3 du db dt uid how fl ds de by' hu hb ht
  ·exact chk_4 du db dt uid how fl ds de by' hu hb ht
  ·exact chk_5 du db dt uid how fl ds de by' hu hb ht
  ·exact chk_6 du db dt uid how fl ds de by' hu hb ht
  ·exact chk_7 du db dt uid how fl ds de by' hu hb ht
  ·exact chk_8 du db dt uid how fl ds de by' hu hb ht
  ·exact chk_9 du db dt uid how fl ds de by' hu hb ht
 ·have c:(decide (dd<1)||decide (9<dd))=true:=by
   rw [Bool.or_eq_true,xX,xX];omega
  have h0:=F83_eq [(2:Int),3,4,5,6,7] (dd,du,db,dt,uid,how,fl,ds,de,by',()) (by decide)
  simp only [F73,uS,c,zG,h0,zE]
abbrev Ur:Type:=Tx×(Int×(List Bx×Unit))
abbrev nou:Ur:=([],0,[],())
theorem getDu_eq {ly:List Ur} {i:Nat} (h:i<ly.length):ly.getD i nou=ly[i]:=by
 rw [xk,List.getElem?_eq_getElem h];rfl
theorem wU {ls:List Bx} {i:Nat} (h:i<ls.length):ls.getD i yH=ls[i]:=by
 rw [xk,List.getElem?_eq_getElem h];rfl
theorem F400_eq (ly:List Ur) (nm:Tx) (hl:ly.length<=1000) :
  ∃ lo:Nat,F400 ((true,nm,()),((ly,()),()))=some (((lo:Int),decide (lo<ly.length)&&decide ((ly.getD lo nou).1=nm),()),((ly,()),()))/\lo<=ly.length /\
   (∀ k,k<lo->(ly.getD k nou).1<nm)/\(lo<ly.length->¬ (ly.getD lo nou).1<nm):=by
 have hF:=zK
 obtain ⟨r,h1,lo,rfl,h2,h3,h4⟩:=yE (f:=B400_0) (p:=((true,nm,(0:Int),()),((ly,()),())))
  (λp=>∃ i:Nat,i<=ly.length/\(∀ k,k<i->(ly.getD k nou).1<nm)/\p=((true,nm,(i:Int),()),((ly,()),()))) (λp=>ly.length-p.1.2.2.1.toNat)
  (λr=>∃ lo:Nat,r=((true,nm,(lo:Int),()),((ly,()),()))/\lo<=ly.length/\(∀ k,k<lo->(ly.getD k nou).1<nm)/\(lo<ly.length->¬ (ly.getD lo nou).1<nm))
  (λp ⟨i,hi,hk,hp⟩=>by
   subst hp
   rcases Nat.lt_or_ge i ly.length with h | h
   ·have d0:decide ((i:Int)<((ly.length:Nat):Int))=true:=zW (by omega)
    have d1:decide ((0:Int)<=(i:Int))=true:=zW (by omega)
    have w1:zX ((i:Int)+1)=((i+1:Nat):Int):=by rw [zO (by omega) (by omega)];rfl
    by_cases hb:(ly.getD i nou).1<nm
    ·left
     refine ⟨((true,nm,((i+1:Nat):Int),()),((ly,()),())),?_,⟨i+1,h,λk hk'=>?_,rfl⟩,by simp only;omega⟩
     ·have hb':Op.bytesLess (ly.getD i (([]:Tx),((0:Int),(([]:(List Bx)),())))).1 nm=true:=by rw [bl_eq];exact zW hb
      simp only [B400_0,d0,d1,z8,Bool.true_or,zG,zr,hb',w1]
     ·rcases Nat.lt_or_ge k i with h' | h'
      ·exact hk k h'
      ·obtain rfl:k=i:=by omega
       exact hb
    ·right
     refine ⟨((true,nm,(i:Int),()),((ly,()),())),?_,i,rfl,hi,hk,λ_=>hb⟩
     have hb':Op.bytesLess (ly.getD i (([]:Tx),((0:Int),(([]:(List Bx)),())))).1 nm=false:=by rw [bl_eq];exact zz hb
     simp only [B400_0,d0,d1,z8,Bool.true_or,zG,zr,hb',Bool.and_false,zJ]
   ·right
    have d0:decide ((i:Int)<((ly.length:Nat):Int))=false:=zz (by omega)
    refine ⟨((true,nm,(i:Int),()),((ly,()),())),?_,i,rfl,hi,hk,λh'=>absurd h' (by omega)⟩
    simp only [B400_0,d0,yq,Bool.or_true,zG,Bool.false_and,zJ])
  ⟨0,Nat.zero_le _,λk hk=>absurd hk (Nat.not_lt_zero _),rfl⟩ (by simp only;omega)
 refine ⟨lo,?_,h2,h3,h4⟩
 have hL:L400_0 ((true,nm,(0:Int),()),((ly,()),()))=some ((true,nm,(lo:Int),()),((ly,()),())):=h1
 have d1:decide ((0:Int)<=(lo:Int))=true:=zW (by omega)
 have e:decide ((lo:Int)<((ly.length:Nat):Int))=decide (lo<ly.length):=by rw [decide_eq_decide];omega
 have o:∀ b:Bool,(b||!b)=true:=λb=>by cases b <;> rfl
 simp only [F400,hL,zE,zG,Bool.true_or,d1,Bool.true_and,e,o,zr]
theorem F401_eq (ly L:List Ur) (i k:Nat) (hl:ly.length<=1000) (hL:L.length<=1000) (hi:i<=ly.length) (hk:k<=ly.length) :
  F401 ((true,(i:Int),(k:Int),L,()),((ly,()),()))=some ((),(((),()),ly.take i++L++ly.drop k,())):=by
 have d1:decide ((0:Int)<=(i:Int))=true:=zW (by omega)
 have d2:decide ((i:Int)<=((ly.length:Nat):Int))=true:=zW (by omega)
 have d3:decide ((0:Int)<=(k:Int))=true:=zW (by omega)
 have d4:decide ((k:Int)<=((ly.length:Nat):Int))=true:=zW (by omega)
 have b1:zC (([]:List Ur).length+(ly.take i).length) 48=true:=zT (by rw [y4,List.length_nil];omega)
 have b2:zC ((ly.take i).length+L.length) 48=true:=zT (by rw [y4];omega)
 have b3:zC ((ly.take i++L).length+((ly.drop k).take (ly.length-k)).length) 48=true:=zT (by rw [yU,y4,y4,tB];omega)
 have e:(ly.drop k).take (ly.length-k)=ly.drop k:=List.take_of_length_le (by rw [tB];omega)
 rw [e] at b3
 simp only [F401,zG,d1,d2,d3,d4,Int.le_refl,zU,z8,zr,b1,b2,b3,e,zE,List.nil_append]
def but (ls:List Bx) (nm:Tx):List Bx:=ls.filter λb=>!decide (b.1=nm)
def oneG (nm:Tx) (o:wI) (b:Bx):wI:=if b.1=nm then yI b else o
theorem F402_eq (u:wg) (nm:Tx) (hl:u.2.2.1.length<=1000):F402 ((u,nm,()),())=some (((),u.2.2.1.foldl (oneG nm) yY,yr u.2.2.1 nm,()),(but u.2.2.1 nm,())):=by
  obtain ⟨un,uv,ls,⟨⟩⟩:=u
  change ls.length<=1000 at hl
  have hF:=zK
  have hL:L402_0 ((nm,(),(),(),(),false,(0:Int),()),((un,uv,ls,()),((),(),(),(),()),([]:List Bx),yY,([]:List yO),()))=some (((),(),(),yr ls nm,()),(((),(),(),(),()),but ls nm,ls.foldl (oneG nm) yY,([]:List yO),())):=by
    unfold L402_0
    refine (zs (f:=B402_0) (λ(c:Bool×(List Bx×wI)) i=>((nm,(),(),(),(),c.1,(i:Int),()),((un,uv,ls,()),((),(),(),(),()),c.2.1,(c.2.2.1,c.2.2.2.1,c.2.2.2.2.1,c.2.2.2.2.2.1,()),([]:List yO),()))) ls
      (λa c=>.inl (c.1||decide (a.1=nm),(if a.1=nm then c.2.1 else c.2.1++[a]),oneG nm c.2.2 a)) (λc=>(((),(),(),c.1,()),(((),(),(),(),()),c.2.1,(c.2.2.1,c.2.2.2.1,c.2.2.2.2.1,c.2.2.2.2.2.1,()),([]:List yO),()))) (λc i=>c.2.1.length<=i)
      (λc i a hI hi ha=>?_) (λc _=>?_) (by omega) (b:=(false,([],yY))) (Nat.le_refl _)).trans ?_
    . refine .inl ⟨_,rfl,?_,?_⟩
      . simp only
        split
        . omega
        . rw [yU,va];omega
      . have d0:decide ((i:Int)<((ls.length:Nat):Int))=true:=zW (by omega)
        have d1:decide ((0:Int)<=(i:Int))=true:=zW (by omega)
        have w1:zX ((i:Int)+1)=((i+1:Nat):Int):=by rw [zO (by omega) (by omega)];rfl
        have b1:∀ x:Bx,zC (c.2.1.length+[x].length) 56=true:=λx=>zT (by simp only [va];omega)
        have ha':=ha yH
        by_cases h:a.1=nm
        . simp only [B402_0,d0,d1,z8,zG,zr,ha',h,zU,zE,w1,Bool.or_true,oneG,↓reduceIte,yI]
        . simp only [B402_0,d0,d1,z8,zG,zr,ha',zz h,zJ,b1,zE,w1,Bool.or_false,oneG,if_neg h]
    . simp only [B402_0,Int.lt_irrefl,yp,zJ]
    . have:∀ (l:List Bx) (c:Bool×(List Bx×wI)),zd (λ(a:Bx) (c:Bool×(List Bx×wI))=>(.inl (c.1||decide (a.1=nm),(if a.1=nm then c.2.1 else c.2.1++[a]),oneG nm c.2.2 a):(Bool×(List Bx×wI))⊕_)) (λc=>(((),(),(),c.1,()),(((),(),(),(),()),c.2.1,(c.2.2.1,c.2.2.2.1,c.2.2.2.2.1,c.2.2.2.2.2.1,()),([]:List yO),()))) c l =
          (((),(),(),c.1||yr l nm,()),(((),(),(),(),()),c.2.1++but l nm,l.foldl (oneG nm) c.2.2,([]:List yO),())):=λl=>by
        induction l with
        | nil=>intro c;simp [zd,yr,but]
        | cons a t ih =>
          intro c
          simp only [zd]
          rw [ih]
          by_cases h:a.1=nm
          . simp [yr,but,h,oneG]
          . simp [yr,but,h,oneG]
      rw [this]
      simp only [Bool.false_or,List.nil_append]
  have he:(([]:Tx),(0:Int),(0:Int),([]:List yO),())=yY:=rfl
  simp only [F402,zE,he,hL]
def lay1 (b:Bx):List Bx->List Bx
 | []=>[b]
 | x::t=>if b.1<x.1 then b::x::t else x::lay1 b t
def uQ (b:Bx) (c:Bool×List Bx) (a:Bx):Bool×List Bx:=if c.1=false/\b.1<a.1 then (true,c.2++[b]++[a]) else (c.1,c.2++[a])
theorem layG_true (b:Bx):∀ (l o:List Bx),l.foldl (uQ b) (true,o)=(true,o++l)
 | [],o=>by simp
 | a::t,o=>by
  simp only [List.foldl_cons]
  rw [show uQ b (true,o) a=(true,o++[a]) by simp [uQ],layG_true b t]
  simp
theorem layG_false (b:Bx):∀ (l o:List Bx),cond (l.foldl (uQ b) (false,o)).1 (l.foldl (uQ b) (false,o)).2 ((l.foldl (uQ b) (false,o)).2++[b])=o++lay1 b l
 | [],o=>by simp [lay1]
 | a::t,o=>by
  simp only [List.foldl_cons,lay1]
  by_cases h:b.1<a.1
  ·rw [show uQ b (false,o) a=(true,o++[b]++[a]) by simp [uQ,h],layG_true b t]
   simp [h]
  ·rw [show uQ b (false,o) a=(false,o++[a]) by simp [uQ,h],layG_false b t]
   simp [h]
theorem F403_eq (ls:List Bx) (b:Bx) (hl:ls.length<=1000):F403 ((ls,yI b,()),())=some ((),(lay1 b ls,())):=by
 obtain ⟨bn,bv,bx,bl,⟨⟩⟩:=b
 have hF:=zK
 have hL:L403_0 ((ls,(),(),false,(0:Int),()),((bn,bv,bx,bl,()),([]:List Bx),()))=some (((),(),(ls.foldl (uQ (bn,bv,bx,bl,())) (false,[])).1,()),((bn,bv,bx,bl,()),(ls.foldl (uQ (bn,bv,bx,bl,())) (false,[])).2,())):=by
  unfold L403_0
  refine (zs (f:=B403_0) (λ(c:Bool×List Bx) i=>((ls,(),(),c.1,(i:Int),()),((bn,bv,bx,bl,()),c.2,()))) ls (λa c=>.inl (uQ (bn,bv,bx,bl,()) c a)) (λc=>(((),(),c.1,()),((bn,bv,bx,bl,()),c.2,()))) (λc i=>c.2.length<=i+(if c.1=true then 1 else 0))
   (λc i a hI hi ha=>?_) (λc _=>?_) (by omega) (b:=(false,[])) (by simp)).trans ?_
  ·have d0:decide ((i:Int)<((ls.length:Nat):Int))=true:=zW (by omega)
   have d1:decide ((0:Int)<=(i:Int))=true:=zW (by omega)
   have w1:zX ((i:Int)+1)=((i+1:Nat):Int):=by rw [zO (by omega) (by omega)];rfl
   have ha':=ha yH
   obtain ⟨done,o⟩:=c
   simp only at hI
   have ho:o.length<=i+1:=by
    split at hI <;> omega
   have b1:∀ x:Bx,zC (o.length+[x].length) 56=true:=λx=>zT (by simp only [va];omega)
   have b2:∀ x y:Bx,zC ((o++[x]).length+[y].length) 56=true:=λx y=>zT (by simp only [yU,va];omega)
   refine .inl ⟨_,rfl,?_,?_⟩
   ·unfold uQ
    simp only
    by_cases h:done=false/\bn<a.1
    ·rw [if_pos h]
     rw [h.1] at hI
     simp only [yU,va,↓reduceIte]
     simp at hI
     omega
    ·rw [if_neg h]
     simp only [yU,va]
     omega
   ·cases done with
    | true =>
     simp only [B403_0,d0,d1,z8,zG,zu,yq,Bool.or_true,Bool.false_and,zJ,zE,zr,ha',b1,w1,uQ,Bool.true_eq_false,false_and,↓reduceIte]
    | false =>
     by_cases h:bn<a.1
     ·have hb:Op.bytesLess bn a.1=true:=by rw [bl_eq];exact zW h
      simp only [B403_0,d0,d1,z8,zG,zu,yq,Bool.true_or,hb,zE,zr,ha',b1,b2,w1,uQ,h,and_self,↓reduceIte]
     ·have hb:Op.bytesLess bn a.1=false:=by rw [bl_eq];exact zz h
      simp only [B403_0,d0,d1,z8,zG,zu,yq,Bool.true_or,Bool.and_false,hb,zJ,zE,zr,ha',b1,w1,uQ,h,and_false,↓reduceIte]
  ·simp only [B403_0,Int.lt_irrefl,yp,zJ]
  ·rw [foldS_inl (uQ (bn,bv,bx,bl,()))]
 have hl2:∀ (l:List Bx) (c:Bool×List Bx),(l.foldl (uQ (bn,bv,bx,bl,())) c).2.length<=c.2.length+2*l.length:=λl=>by
  induction l with
  | nil=>intro c;simp
  | cons a t ih =>
   intro c
   simp only [List.foldl_cons,List.length_cons]
   refine Nat.le_trans (ih _) ?_
   unfold uQ
   split
   ·simp only [yU,va];omega
   ·simp only [yU,va];omega
 have hlen:=hl2 ls (false,[])
 have key:=layG_false (bn,bv,bx,bl,()) ls []
 simp only [F403,yI,zE,hL]
 rw [List.nil_append] at key
 cases hd:(ls.foldl (uQ (bn,bv,bx,bl,())) (false,[])).1 with
 | true =>
  rw [hd,zG] at key
  simp only [zu,zJ,zE,key]
 | false =>
  rw [hd,zJ] at key
  have b1:∀ x:Bx,zC ((ls.foldl (uQ (bn,bv,bx,bl,())) (false,[])).2.length+[x].length) 56=true:=λx=>zT (by simp only [va];simp at hlen;omega)
  simp only [yq,zG,b1,zE,key]
def cntM (frm:Tx) (ls:List Bx):Nat:=ls.countP λb=>vw b.1 frm
noncomputable def allR (frm tt:Tx) (ls:List Bx):Bool:=ls.all λb=>zl (wo b.1 frm tt)
theorem cntM_succ {frm:Tx} {ls:List Bx} {i:Nat} (h:i<ls.length):cntM frm (ls.take (i+1))=cntM frm (ls.take i)+(if vw ls[i].1 frm=true then 1 else 0):=by
 unfold cntM
 rw [List.take_succ_eq_append_getElem h,List.countP_append]
 simp [List.countP_cons]
theorem L77_0_eq (un:Tx) (uv:Int) (d:Dd) (ls xs:List Bx) (hl:ls.length<=6) (hn:∀ b∈ls,zl b.1=true) (h2:d.2.2.1.length<=1100000) (h3:d.2.2.2.1.length<=1100000) :
  ∃ r:R77,L77_0 (((),(),(),(0:Int),(),((ls.length:Nat):Int),(0:Int),()),((un,uv,(),()),d,((),(),(),()),ls,xs,()))=some r /\
   match r with
   | .inl q=>q=(((),(),((cntM d.2.2.1 ls:Nat):Int),()),((un,uv,(),()),((),(),(),()),ls.map (ren d.2.2.1 d.2.2.2.1),xs,()))/\allR d.2.2.1 d.2.2.2.1 ls=true
   | .inr q=>(∃ cur,q=(((),(),(),()),((un,uv,(),()),cur,())))/\allR d.2.2.1 d.2.2.2.1 ls=false:=by
 obtain ⟨dd,du,db,dt,uid,how,fl,ds,de,by',⟨⟩⟩:=d
 simp only at h2 h3 ⊢
 have hF:=zK
 unfold L77_0
 refine yE (f:=ui) (λp=>∃ (i:Nat),i<=ls.length/\(∀ k,k<i->zl (wo (ls.getD k yH).1 db dt)=true) /\
   p=(((),(),(),((cntM db (ls.take i):Nat):Int),(),((ls.length:Nat):Int),(i:Int),()),((un,uv,(),()),(dd,du,db,dt,uid,how,fl,ds,de,by',()),((),(),(),()),(ls.take i).map (ren db dt)++ls.drop i,xs,())))
  (λp=>ls.length-p.1.2.2.2.2.2.2.1.toNat) _ ?_ ⟨0,Nat.zero_le _,λk hk=>absurd hk (Nat.not_lt_zero _),by simp [cntM]⟩ (by simp only;omega)
 rintro p ⟨i,hi,hk,rfl⟩
 rcases Nat.lt_or_ge i ls.length with h | h
 ·have d0:decide ((i:Int)<((ls.length:Nat):Int))=true:=zW (by omega)
  have d1:decide ((0:Int)<=(i:Int))=true:=zW (by omega)
  have w1:zX ((i:Int)+1)=((i+1:Nat):Int):=by rw [zO (by omega) (by omega)];rfl
  have hc:=cntM_succ (frm:=db) h
  have hcl:cntM db (ls.take i)<=6:=Nat.le_trans List.countP_le_length (by rw [y4];omega)
  have w2:zX (((cntM db (ls.take i):Nat):Int)+1)=((cntM db (ls.take i)+1:Nat):Int):=by rw [zO (by omega) (by omega)];rfl
  have hlen:((ls.take i).map (ren db dt)++ls.drop i).length=ls.length:=by simp;omega
  have hti:((ls.take i).map (ren db dt)).length=i:=by simp;omega
  obtain ⟨⟨bn,bv,bx,bl,⟨⟩⟩,hb⟩:∃ b,ls[i]=b:=⟨_,rfl⟩
  rw [hb] at hc
  have hcur:(ls.take i).map (ren db dt)++ls.drop i=(ls.take i).map (ren db dt)++((bn,(bv,(bx,(bl,()))))::ls.drop (i+1)):=by
   rw [List.drop_eq_getElem_cons h,hb]
  have hg:((ls.take i).map (ren db dt)++ls.drop i).getD i (([]:List UInt8),((0:Int),((0:Int),(([]:(List yO)),()))))=(bn,(bv,(bx,(bl,())))):=by
   rw [hcur,xk,List.getElem?_append_right (by omega),hti,Nat.sub_self]
   rfl
  have hset:∀ x:Bx,((ls.take i).map (ren db dt)++ls.drop i).set i x=(ls.take i).map (ren db dt)++(x::ls.drop (i+1)):=λx=>by
   rw [hcur]
   have:=tz ((ls.take i).map (ren db dt)) (ls.drop (i+1)) (bn,(bv,(bx,(bl,())))) x
   rw [hti] at this
   exact this
  have hnext:(ls.take i).map (ren db dt)++((wo bn db dt,(bv,(bx,(bl,()))))::ls.drop (i+1))=(ls.take (i+1)).map (ren db dt)++ls.drop (i+1):=by
   rw [List.take_succ_eq_append_getElem h,List.map_append,List.map_cons,hb]
   simp [ren]
  have hbn:bn.length<=24:=by
   have:=w7 (hn ls[i] (List.getElem_mem h))
   rw [hb] at this
   exact this
  have e102:=F94_eq bn db dt (by omega) h2 h3
  have e70:=F64_eq (wo bn db dt)
  generalize hC:(ls.take i).map (ren db dt)++ls.drop i=C at hlen hg hset
  cases hr:zl (wo bn db dt) with
  | false =>
   rw [hr] at e70
   right
   refine ⟨.inr (((),(),(),()),((un,uv,(),()),C,())),?_,⟨_,rfl⟩,?_⟩
   ·cases hm:vw bn db with
    | false =>
     rw [hm] at e102
     simp only [ui,d0,d1,hlen,z8,zG,zJ,zr,zE,hg,e102,e70,yq]
    | true =>
     rw [hm] at e102
     simp only [ui,d0,d1,hlen,z8,zG,zr,zE,hg,e102,e70,yq]
   ·unfold allR
    rw [List.all_eq_false]
    exact ⟨ls[i],List.getElem_mem h,by rw [hb];simp [hr]⟩
  | true =>
   rw [hr] at e70
   left
   have hgood:∀ k,k<i+1->zl (wo (ls.getD k yH).1 db dt)=true:=λk hk'=>by
    rcases Nat.lt_or_ge k i with h' | h'
    ·exact hk k h'
    ·obtain rfl:k=i:=by omega
     rw [xk,List.getElem?_eq_getElem h,hb]
     exact hr
   cases hm:vw bn db with
   | false =>
    rw [hm] at e102 hc
    rw [if_neg (by simp)] at hc
    refine ⟨_,by simp only [ui,d0,d1,hlen,z8,zG,zJ,zr,zE,hg,e102,e70,zu,hset,hnext,w1];rfl,⟨i+1,h,hgood,by rw [hc];rfl⟩,?_⟩
    simp only;omega
   | true =>
    rw [hm] at e102 hc
    rw [if_pos rfl] at hc
    refine ⟨_,by simp only [ui,d0,d1,hlen,z8,zG,zJ,zr,zE,hg,e102,e70,zu,hset,hnext,w1,w2];rfl,⟨i+1,h,hgood,by rw [hc]⟩,?_⟩
    simp only;omega
 ·have hi':i=ls.length:=by omega
  subst hi'
  right
  refine ⟨.inl (((),(),((cntM db ls:Nat):Int),()),((un,uv,(),()),((),(),(),()),ls.map (ren db dt),xs,())),?_,rfl,?_⟩
  ·simp only [ui,Int.lt_irrefl,yp,zJ,List.take_length,List.drop_length,List.append_nil]
  ·unfold allR
   rw [List.all_eq_true]
   intro b hb
   obtain ⟨k,hk',rfl⟩:=List.getElem_of_mem hb
   have:=hk k hk'
   rw [xk,List.getElem?_eq_getElem hk'] at this
   exact this
theorem L77_1_eq (un:Tx) (uv n:Int) (ls xs:List Bx) (h1:1<=ls.length) (hl:ls.length<=6) :
  ∃ r:R77,L77_1 (((),(),n,((ls.length-1:Nat):Int),(0:Int),()),((un,uv,(),()),((),(),(),()),ls,xs,()))=some r /\
   match r with
   | .inl q=>q=(((),(),n,()),((un,uv,(),()),((),(),(),()),ls,xs,()))/\∀ k,k+1<ls.length->(ls.getD k yH).1≠(ls.getD (k+1) yH).1
   | .inr q=>q=(((),(),(),()),((un,uv,(),()),ls,()))/\∃ k,k+1<ls.length/\(ls.getD k yH).1=(ls.getD (k+1) yH).1:=by
 have hF:=zK
 unfold L77_1
 refine yE (f:=B77_1) (λp=>∃ (i:Nat),i<=ls.length-1/\(∀ k,k<i->(ls.getD k yH).1≠(ls.getD (k+1) yH).1) /\
   p=(((),(),n,((ls.length-1:Nat):Int),(i:Int),()),((un,uv,(),()),((),(),(),()),ls,xs,())))
  (λp=>ls.length-p.1.2.2.2.2.1.toNat) _ ?_ ⟨0,Nat.zero_le _,λk hk=>absurd hk (Nat.not_lt_zero _),rfl⟩ (by simp only;omega)
 rintro p ⟨i,hi,hk,rfl⟩
 rcases Nat.lt_or_ge i (ls.length-1) with h | h
 ·have d0:decide ((i:Int)<((ls.length-1:Nat):Int))=true:=zW (by omega)
  have d1:decide ((0:Int)<=(i:Int))=true:=zW (by omega)
  have d2:decide ((i:Int)<((ls.length:Nat):Int))=true:=zW (by omega)
  have w1:zX ((i:Int)+1)=((i+1:Nat):Int):=by rw [zO (by omega) (by omega)];rfl
  have d3:decide ((0:Int)<=((i+1:Nat):Int))=true:=zW (by omega)
  have d4:decide (((i+1:Nat):Int)<((ls.length:Nat):Int))=true:=zW (by omega)
  by_cases he:(ls.getD i yH).1=(ls.getD (i+1) yH).1
  ·right
   refine ⟨.inr (((),(),(),()),((un,uv,(),()),ls,())),?_,rfl,i,by omega,he⟩
   simp only [B77_1,d0,d1,d2,w1,d3,d4,z8,zG,zr,he,zU]
  ·left
   refine ⟨_,by simp only [B77_1,d0,d1,d2,w1,d3,d4,z8,zG,zr,he,yp,zJ],⟨i+1,h,λk hk'=>?_,rfl⟩,?_⟩
   ·rcases Nat.lt_or_ge k i with h' | h'
    ·exact hk k h'
    ·obtain rfl:k=i:=by omega
     exact he
   ·simp only;omega
 ·have hi':i=ls.length-1:=by omega
  subst hi'
  right
  refine ⟨.inl (((),(),n,()),((un,uv,(),()),((),(),(),()),ls,xs,())),?_,rfl,λk hk'=>hk k (by omega)⟩
  simp only [B77_1,Int.lt_irrefl,yp,zJ]
theorem vZ (b:Bx):∀ (l:List Bx),(lay1 b l).Perm (b::l)
 | []=>List.Perm.refl _
 | x::t=>by
  unfold lay1
  split
  ·exact List.Perm.refl _
  ·exact ((vZ b t).cons x).trans (List.Perm.swap b x t)
theorem lay1_len (b:Bx) (l:List Bx):(lay1 b l).length=l.length+1:=(vZ b l).length_eq
theorem lay1_rise (b:Bx):∀ (l:List Bx),l.Pairwise (λa b=>a.1<b.1)->(∀ x∈l,x.1≠b.1)->(lay1 b l).Pairwise (λa b=>a.1<b.1)
 | [],_,_=>by simp [lay1]
 | x::t,h,hn=>by
  obtain ⟨h1,h2⟩:=List.pairwise_cons.1 h
  unfold lay1
  split
  ·rename_i hb
   refine List.pairwise_cons.2 ⟨λy hy=>?_,h⟩
   rcases List.mem_cons.1 hy with rfl | hy
   ·exact hb
   ·exact List.lt_trans hb (h1 y hy)
  ·rename_i hb
   refine List.pairwise_cons.2 ⟨λy hy=>?_,lay1_rise b t h2 λz hz=>hn z (List.mem_cons_of_mem _ hz)⟩
   rcases List.mem_cons.1 ((vZ b t).mem_iff.1 hy) with rfl | hy
   ·exact wK hb λe=>hn x (List.mem_cons_self ..) e.symm
   ·exact h1 y hy
theorem rise_eq:∀ {a b:List Bx},a.Perm b->a.Pairwise (λa b=>a.1<b.1)->b.Pairwise (λa b=>a.1<b.1)->a=b
 | [],b,h,_,_=>h.nil_eq
 | x::t,[],h,_,_=>by have:=h.length_eq;simp at this
 | x::t,y::s,h,h1,h2=>by
  obtain ⟨k1,k2⟩:=List.pairwise_cons.1 h1
  obtain ⟨k3,k4⟩:=List.pairwise_cons.1 h2
  have e:x=y:=by
   rcases List.mem_cons.1 (h.mem_iff.1 (List.mem_cons_self ..)) with e | hx
   ·exact e
   ·rcases List.mem_cons.1 (h.symm.mem_iff.1 (List.mem_cons_self ..)) with e | hy
    ·exact e.symm
    ·exact absurd (List.lt_trans (k3 x hx) (k1 y hy)) (List.lt_irrefl _)
  subst e
  rw [rise_eq (List.Perm.cons_inv h) k2 k4]
def vm (f t:Tx) (c:Int×Bool×List Bx) (b:Bx):Int×Bool×List Bx :=
 ((if vw b.1 f=true then c.1+1 else c.1),c.2.1||c.2.2.any (λx=>decide (x.1=wo b.1 f t)),lay1 (ren f t b) c.2.2)
theorem renG_fold (f t:Tx):∀ (ls:List Bx) (c:Int×Bool×List Bx),(ls.foldl (vm f t) c).1=c.1+((cntM f ls:Nat):Int)/\(ls.foldl (vm f t) c).2.2.Perm (c.2.2++ls.map (ren f t)) /\
      (c.2.2.Pairwise (λa b=>a.1<b.1)->(ls.foldl (vm f t) c).2.1=false->(ls.foldl (vm f t) c).2.2.Pairwise (λa b=>a.1<b.1)) /\
      ((ls.foldl (vm f t) c).2.1=true->c.2.1=true\/¬ ((c.2.2++ls.map (ren f t)).map (·.1)).Nodup)
  | [],c=>⟨by simp [cntM],by simp,λh _=>h,λh=>.inl h⟩
  | a::l,c=>by
    obtain ⟨h1,h2,h3,h4⟩:=renG_fold f t l (vm f t c a)
    have hmono:∀ (l:List Bx) (c:Int×Bool×List Bx),c.2.1=true->(l.foldl (vm f t) c).2.1=true:=λl=>by
      induction l with
      | nil=>exact λc h=>h
      | cons x t' ih=>exact λc h=>ih _ (by simp [vm,h])
    simp only [List.foldl_cons]
    have hp:((lay1 (ren f t a) c.2.2)++l.map (ren f t)).Perm (c.2.2++(a::l).map (ren f t)):=by
      refine ((vZ (ren f t a) c.2.2).append_right _).trans ?_
      rw [List.map_cons,List.cons_append]
      exact List.perm_middle.symm
    refine ⟨?_,h2.trans hp,λhc hk=>?_,λhk=>?_⟩
    . rw [h1]
      unfold vm cntM
      rw [List.countP_cons]
      simp only
      split <;> simp <;> omega
    . have hk1:(vm f t c a).2.1=false:=by
        cases hq:(vm f t c a).2.1 with
        | false=>rfl
        | true=>rw [hmono l _ hq] at hk;cases hk
      refine h3 (lay1_rise _ _ hc λx hx e=>?_) hk
      simp only [vm,Bool.or_eq_false_iff,List.any_eq_false,xX] at hk1
      exact hk1.2 x hx e
    . rcases h4 hk with h | h
      . simp only [vm,Bool.or_eq_true,List.any_eq_true,xX] at h
        rcases h with h | ⟨x,hx,e⟩
        . exact .inl h
        . right
          intro hnd
          rw [List.map_append,List.map_cons,List.map_cons,List.nodup_append] at hnd
          exact hnd.2.2 x.1 (List.mem_map_of_mem hx) _ (List.mem_cons_self ..) e
      . right
        intro hnd
        exact h ((hp.map (·.1)).nodup_iff.2 hnd)
theorem moves_eq (nm frm:Tx):vw nm frm=(decide (nm=frm)||((decide (((frm.length:Nat):Int)<((nm.length:Nat):Int))&&decide (nm.take frm.length=frm))&&decide (nm.getD frm.length 0=47))):=by
 unfold vw pfx
 by_cases h:nm=frm
 ·simp [h]
 ·rw [zz h,Bool.false_or,Bool.false_or]
  rw [Bool.eq_iff_iff]
  simp only [yk,xX,yU,va]
  constructor
  ·rintro ⟨h1,h2⟩
   have h3:frm.length<nm.length:=by omega
   rw [List.take_succ_eq_append_getElem h3] at h2
   obtain ⟨h4,h5⟩:=List.append_inj' h2 rfl
   simp only [List.cons.injEq,and_true] at h5
   refine ⟨⟨by omega,h4⟩,?_⟩
   rw [xk,List.getElem?_eq_getElem h3]
   exact h5
  ·rintro ⟨⟨h1,h2⟩,h3⟩
   have h4:frm.length<nm.length:=by omega
   refine ⟨by omega,?_⟩
   rw [List.take_succ_eq_append_getElem h4,h2]
   rw [xk,List.getElem?_eq_getElem h4] at h3
   simp only [Option.getD_some] at h3
   rw [h3]
theorem L404_1_eq (ly:List Ur) (at' n:Int) (i:Int) (known:Bool) (d:Dd) (u:wg) (out:List Bx) (b:Bx) (hl:out.length<=1000) :
  L404_1 ((true,at',(),(),(),n,known,i,(),(0:Int),()),((ly,()),d,u,out,yI b,()))=some ((true,at',(),(),(),n,(known||out.any λx=>decide (x.1=b.1)),i,(),()),((ly,()),d,u,out,yI b,())):=by
 obtain ⟨dd,du,db,dt,uid,how,fl,ds,de,by',⟨⟩⟩:=d
 obtain ⟨un,uv,ls,⟨⟩⟩:=u
 obtain ⟨bn,bv,bx,bl,⟨⟩⟩:=b
 have hF:=zK
 unfold L404_1 yI
 refine (yL (f:=B404_1) (λ(k:Bool) j=>((true,at',(),(),(),n,k,i,(),(j:Int),()),((ly,()),(dd,du,db,dt,uid,how,fl,ds,de,by',()),(un,uv,ls,()),out,(bn,bv,bx,bl,()),()))) out
  (λa k=>.inl (k||decide (a.1=bn))) (λk=>((true,at',(),(),(),n,k,i,(),()),((ly,()),(dd,du,db,dt,uid,how,fl,ds,de,by',()),(un,uv,ls,()),out,(bn,bv,bx,bl,()),())))
  (λk j a hj ha=>?_) (λk=>?_) (by omega) (b:=known)).trans ?_
 ·have d0:decide ((j:Int)<((out.length:Nat):Int))=true:=zW (by omega)
  have d1:decide ((0:Int)<=(j:Int))=true:=zW (by omega)
  have w1:zX ((j:Int)+1)=((j+1:Nat):Int):=by rw [zO (by omega) (by omega)];rfl
  simp only [B404_1,d0,d1,z8,Bool.true_or,zG,zr,ha yH,zE,w1]
 ·simp only [B404_1,Int.lt_irrefl,yp,zJ]
 ·rw [foldS_any (λ(a:Bx)=>decide (a.1=bn))]
theorem foldS_guard {α β τ:Type} (q:α->Bool) (g:β->α->β) (r:τ) (fin:β->τ):∀ (l:List α) (b:β),zd (λa b=>if q a=true then (.inl (g b a):β⊕τ) else .inr r) fin b l=if l.all q=true then fin (l.foldl g b) else r
 | [],_=>rfl
 | a::t,b=>by
  have ih:=foldS_guard q g r fin t
  simp only [zd,List.all_cons,List.foldl_cons]
  rcases Bool.eq_false_or_eq_true (q a) with hq | hq
  ·simp only [hq,↓reduceIte,ih,Bool.true_and]
  ·simp only [hq,Bool.false_eq_true,↓reduceIte,Bool.false_and]
abbrev R65:Type:=(((Bool×Int×Unit×Unit×Int×Bool×Unit)×(((List Ur)×Unit)×(Tx×Int×(List Bx)×Unit)×(List Bx)×Unit))⊕((Bool×Unit×Unit×Unit)×(((List Ur)×Unit)×Unit)))
theorem L404_0_eq (ly:List Ur) (at':Int) (d:Dd) (un:Tx) (uv:Int) (ls:List Bx) (hl:ls.length<=6) (hn:∀ b∈ls,zl b.1=true) (h2:d.2.2.1.length<=24) (h3:d.2.2.2.1.length<=1050000) :
  L404_0 ((true,at',(),(),(),(0:Int),false,(0:Int),()),((ly,()),d,(un,uv,ls,()),([]:List Bx),())) =
   some (if allR d.2.2.1 d.2.2.2.1 ls=true then (.inl ((true,at',(),(),(ls.foldl (vm d.2.2.1 d.2.2.2.1) (0,false,[])).1,(ls.foldl (vm d.2.2.1 d.2.2.2.1) (0,false,[])).2.1,()),((ly,()),(un,uv,ls,()),(ls.foldl (vm d.2.2.1 d.2.2.2.1) (0,false,[])).2.2,())):R65) else .inr ((true,(),(),()),((ly,()),()))):=by
 obtain ⟨dd,du,db,dt,uid,how,fl,ds,de,by',⟨⟩⟩:=d
 simp only at h2 h3 ⊢
 have hF:=zK
 unfold L404_0
 refine (zs (f:=B404_0) (λ(c:Int×Bool×List Bx) i=>((true,at',(),(),(),c.1,c.2.1,(i:Int),()),((ly,()),(dd,du,db,dt,uid,how,fl,ds,de,by',()),(un,uv,ls,()),c.2.2,()))) ls
  (λa c=>if zl (wo a.1 db dt)=true then .inl (vm db dt c a) else .inr (.inr ((true,(),(),()),((ly,()),())))) (λc=>(.inl ((true,at',(),(),c.1,c.2.1,()),((ly,()),(un,uv,ls,()),c.2.2,())):R65))
  (λc i=>0<=c.1/\c.1<=i/\c.2.2.length<=i) (λc i a hI hi ha=>?_) (λc _=>?_) (by omega) (b:=(0,false,[])) ⟨Int.le_refl _,Int.le_refl _,Nat.le_refl _⟩).trans ?_
 ·obtain ⟨n,kn,out⟩:=c
  obtain ⟨i1,i2,i3⟩:=hI
  simp only at i1 i2 i3
  have d0:decide ((i:Int)<((ls.length:Nat):Int))=true:=zW (by omega)
  have d1:decide ((0:Int)<=(i:Int))=true:=zW (by omega)
  have w1:zX ((i:Int)+1)=((i+1:Nat):Int):=by rw [zO (by omega) (by omega)];rfl
  have w2:zX (n+1)=n+1:=zO (by omega) (by omega)
  obtain ⟨bn,bv,bx,bl,⟨⟩⟩:=a
  have ha':ls.getD i (([]:List UInt8),((0:Int),((0:Int),(([]:(List yO)),()))))=(bn,bv,bx,bl,()):=ha yH
  have hm:(bn,bv,bx,bl,())∈ls:=by
   have:=ha yH
   rw [xk,List.getElem?_eq_getElem hi] at this
   rw [<- this]
   exact List.getElem_mem hi
  have hbn:bn.length<=24:=w7 (hn _ hm)
  have hud:(wo bn db dt).length<=1050024:=by
   unfold wo
   split
   ·rw [yU,tB];omega
   ·omega
  have e33:=yV (wo bn db dt) (by omega)
  have e64:=λnm:Tx=>F403_eq out (nm,(bv,(bx,(bl,())))) (by omega)
  have e651:=λ(m:Int) (nm:Tx)=>L404_1_eq ly at' m (i:Int) kn (dd,du,db,dt,uid,how,fl,ds,de,by',()) (un,uv,ls,()) out (nm,(bv,(bx,(bl,())))) (by omega)
  simp only [yI] at e64 e651
  have q1:((decide ((0:Int)<=((db.length:Nat):Int))&&decide (((db.length:Nat):Int)<=((bn.length:Nat):Int)))||(!(decide (((db.length:Nat):Int)<((bn.length:Nat):Int))&&(!(decide (bn=db))))))=true:=by
   rw [zW (show (0:Int)<=((db.length:Nat):Int) by omega)]
   by_cases h:((db.length:Nat):Int)<((bn.length:Nat):Int)
   ·rw [zW (show ((db.length:Nat):Int)<=((bn.length:Nat):Int) by omega)];rfl
   ·rw [zz h];simp
  have q2:((decide ((0:Int)<=((db.length:Nat):Int))&&decide (((db.length:Nat):Int)<((bn.length:Nat):Int)))||(!((decide (((db.length:Nat):Int)<((bn.length:Nat):Int))&&decide (bn.take db.length=db))&&(!(decide (bn=db))))))=true:=by
   rw [zW (show (0:Int)<=((db.length:Nat):Int) by omega)]
   cases decide (((db.length:Nat):Int)<((bn.length:Nat):Int)) <;> simp
  have hmv:=moves_eq bn db
  cases hmo:vw bn db with
  | false =>
   rw [hmo] at hmv
   have hu:wo bn db dt=bn:=by unfold wo;rw [hmo];rfl
   rw [hu] at e33
   cases hr:zl bn with
   | false =>
    right
    rw [hr] at e33
    refine ⟨_,by rw [hu,hr,if_neg (by simp)],?_⟩
    simp only [B404_0,d0,d1,z8,zG,zr,ha',zE,q1,q2,<- hmv,zJ,e33,yq]
   | true =>
    left
    rw [hr] at e33
    refine ⟨_,by rw [hu,hr,if_pos rfl],?_,?_⟩
    ·simp only [vm,hmo,Bool.false_eq_true,↓reduceIte,lay1_len]
     omega
    ·simp only [B404_0,d0,d1,z8,zG,zr,ha',zE,q1,q2,<- hmv,zJ,e33,zu,e651,e64,w1,vm,hmo,hu,ren,Bool.false_eq_true,↓reduceIte]
  | true =>
   rw [hmo] at hmv
   have hle:db.length<=bn.length:=by
    unfold vw at hmo
    rw [Bool.or_eq_true,xX] at hmo
    rcases hmo with h | h
    ·rw [h];exact Nat.le_refl _
    ·have:=pfx_le h
     rw [yU] at this
     omega
   have hu:wo bn db dt=dt++bn.drop db.length:=by unfold wo;rw [hmo];rfl
   have q3:((decide ((0:Int)<=((db.length:Nat):Int))&&decide (((db.length:Nat):Int)<=((bn.length:Nat):Int)))&&decide (((bn.length:Nat):Int)<=((bn.length:Nat):Int)))=true:=by
    rw [zW (show (0:Int)<=((db.length:Nat):Int) by omega),zW (show ((db.length:Nat):Int)<=((bn.length:Nat):Int) by omega),zW (Int.le_refl _)]
    rfl
   have tk:(bn.drop db.length).take (bn.length-db.length)=bn.drop db.length:=List.take_of_length_le (by rw [tB];omega)
   have ft:fits (dt.length+(bn.drop db.length).length)=true:=zW (by rw [tB];omega)
   rw [hu] at e33
   cases hr:zl (dt++bn.drop db.length) with
   | false =>
    right
    rw [hr] at e33
    refine ⟨_,by rw [hu,hr,if_neg (by simp)],?_⟩
    simp only [B404_0,d0,d1,z8,zG,zr,ha',zE,q1,q2,<- hmv,q3,tk,ft,e33,yq]
   | true =>
    left
    rw [hr] at e33
    refine ⟨_,by rw [hu,hr,if_pos rfl],?_,?_⟩
    ·simp only [vm,hmo,↓reduceIte,lay1_len]
     omega
    ·simp only [B404_0,d0,d1,z8,zG,zr,ha',zE,q1,q2,<- hmv,q3,tk,ft,zJ,e33,zu,e651,e64,w1,w2,vm,hmo,hu,ren,↓reduceIte]
 ·simp only [B404_0,Int.lt_irrefl,yp,zJ]
 ·rw [foldS_guard (λa=>zl (wo a.1 db dt)) (vm db dt)]
  rfl
theorem ren_both {u:wg} (G:Fine u) (d:Dd) (h3:d.2.2.2.1.length<=1050000) (hh:yr u.2.2.1 d.2.2.1=true) (ly:List Ur) (k:Nat) (hk:k<ly.length) (hly:ly.length<=1000) (he:ly.getD k nou=(u.1,(u.2.1,(u.2.2.1,())))) :
  ∃ R:wg×Int×Int×Unit,F77 ((u,d,()),())=some (R,())/\(R.2.2.1=0->Fine R.1/\R.1.1=u.1) /\
   F404 ((true,(k:Int),d,()),((ly,()),()))=some ((if R.2.2.1=0 then (R.2.1,0,()) else (0,R.2.2.1,())),(((if R.2.2.1=0 then ly.take k++[(R.1.1,(R.1.2.1,(R.1.2.2.1,())))]++ly.drop (k+1) else ly),()),())):=by
 obtain ⟨un,uv,ls,⟨⟩⟩:=u
 obtain ⟨lo,e39,_,_,_,h5,_⟩:=F91_eq (un,uv,ls,()) d.2.2.1 (Nat.le_trans G.good.few (by omega)) G.good.rise
 obtain ⟨R0,hR0,hR1⟩:=F77_ex G d (by omega)
 refine ⟨R0,hR0,hR1,?_⟩
 obtain ⟨dd,du,db,dt,uid,how,fl,ds,de,by',⟨⟩⟩:=d
 have g1:=G.good.few
 have g5:=G.names
 simp only at h3 e39 h5 g1 g5 hh he
 rw [hh] at e39
 obtain ⟨k1,k2⟩:=h5 hh
 have hdb:db.length<=24:=by
  have:=w7 (g5 _ (uA k1))
  rw [k2] at this
  exact this
 have d0:decide ((k:Int)<((ly.length:Nat):Int))=true:=zW (by omega)
 have d1:decide ((0:Int)<=(k:Int))=true:=zW (by omega)
 have hg:ly.getD k (([]:Tx),((0:Int),(([]:(List Bx)),())))=(un,(uv,(ls,()))):=he
 by_cases hin:db=inbx
 ·have hd:decide (db=([73,78,66,79,88]:List UInt8))=true:=zW hin
  have:R0=((un,uv,ls,()),0,13,()):=by
   have:F77 (((un,uv,ls,()),(dd,du,db,dt,uid,how,fl,ds,de,by',()),()),())=some (((un,uv,ls,()),0,13,()),()):=by
    simp only [F77,e39,zE,zu,zJ,hd,zG]
   rw [this] at hR0
   cases hR0
   rfl
  subst this
  simp only [F404,zG,d0,d1,z8,zr,hg,zE,hd]
  rfl
 ·have hdi:decide (db=([73,78,66,79,88]:List UInt8))=false:=zz hin
  have e30:=F32_eq ls (by omega)
  have e65:=L404_0_eq ly (k:Int) (dd,du,db,dt,uid,how,fl,ds,de,by',()) un uv ls g1 g5 hdb h3
  simp only at e65
  obtain ⟨r,e0,hr⟩:=L77_0_eq un uv (dd,du,db,dt,uid,how,fl,ds,de,by',()) ls [] g1 g5 (by simp only;omega) (by simp only;omega)
  cases r with
  | inr q =>
   obtain ⟨⟨cur,rfl⟩,hal⟩:=hr
   simp only at hal
   have:R0=((un,uv,cur,()),0,6,()):=by
    have:F77 (((un,uv,ls,()),(dd,du,db,dt,uid,how,fl,ds,de,by',()),()),())=some (((un,uv,cur,()),0,6,()),()):=by
     simp only [F77,e39,zE,zu,zJ,hdi,e30,e0]
    rw [this] at hR0
    cases hR0
    rfl
   subst this
   rw [hal,if_neg (by simp)] at e65
   simp only [F404,zG,d0,d1,z8,zr,hg,zE,hdi,zJ,e65]
   rfl
  | inl q =>
   obtain ⟨rfl,hal⟩:=hr
   simp only at hal
   rw [hal,if_pos rfl] at e65
   have hp:(srtB (ls.map (ren db dt))).Perm (ls.map (ren db dt)):=srtBy_perm _ _ _
   have hs:(srtB (ls.map (ren db dt))).Pairwise λa b=>¬ b.1<a.1:=srtBy_sorted _ _ _
   have hlen:(srtB (ls.map (ren db dt))).length=ls.length:=by rw [hp.length_eq,List.length_map]
   have hok:srtBOK (ls.map (ren db dt))=true:=by
    unfold srtBOK
    simp only [List.length_map,yk,xX,Bool.not_eq_true',List.isEmpty_eq_false_iff]
    refine ⟨by omega,λh=>?_⟩
    have:=congrArg List.length h
    rw [List.length_map,List.length_nil] at this
    omega
   obtain ⟨S,hS⟩:∃ S,srtB (ls.map (ren db dt))=S:=⟨_,rfl⟩
   rw [hS] at hp hs hlen
   obtain ⟨f1,f2,f3,f4⟩:=renG_fold db dt ls (0,false,[])
   obtain ⟨⟨n',kn,out⟩,hfo⟩:∃ c,ls.foldl (vm db dt) (0,false,[])=c:=⟨_,rfl⟩
   rw [hfo] at e65 f1 f2 f3 f4
   simp only [List.nil_append,Int.zero_add] at f1 f2 f3 f4
   subst f1
   obtain ⟨r,e1,hr⟩:=L77_1_eq un uv ((cntM db ls:Nat):Int) S [] (by omega) (by omega)
   have c1:decide ((1:Int)<=((S.length:Nat):Int))=true:=zW (by omega)
   cases r with
   | inr q =>
    obtain ⟨rfl,j,hj,hje⟩:=hr
    have hkn:kn=true:=by
     cases kn with
     | true=>rfl
     | false =>
      have hrise:=f3 List.Pairwise.nil rfl
      have hnd:(out.map (·.1)).Nodup:=by
       rw [List.Nodup,List.pairwise_map]
       exact hrise.imp λh e=>absurd (e ▸ h) (List.lt_irrefl _)
      have hps:=((f2.trans hp.symm).map (·.1)).nodup_iff.1 hnd
      rw [List.Nodup,List.pairwise_map] at hps
      rw [wU (by omega),wU hj] at hje
      exact absurd hje (List.pairwise_iff_getElem.1 hps j (j+1) (by omega) hj (by omega))
    subst hkn
    have:R0=((un,uv,S,()),0,10,()):=by
     have:F77 (((un,uv,ls,()),(dd,du,db,dt,uid,how,fl,ds,de,by',()),()),())=some (((un,uv,S,()),0,10,()),()):=by
      simp only [F77,e39,zE,zu,zJ,hdi,e30,e0,hok,zG,hS,c1,Int.le_refl,zU,z8,zr,e1]
     rw [this] at hR0
     cases hR0
     rfl
    subst this
    simp only [F404,zG,d0,d1,z8,zr,hg,zE,hdi,zJ,e65]
    rfl
   | inl q =>
    obtain ⟨rfl,hd⟩:=hr
    have hrise:S.Pairwise λa b=>a.1<b.1:=rise_of λk hk=>by
     have h1:=List.pairwise_iff_getElem.1 hs k (k+1) (by omega) hk (by omega)
     have h2:=hd k hk
     rw [wU (by omega),wU hk] at h2 ⊢
     exact wK h1 λe=>h2 e.symm
    have hnd:((ls.map (ren db dt)).map (·.1)).Nodup:=by
     refine (hp.map (·.1)).nodup_iff.1 ?_
     rw [List.Nodup,List.pairwise_map]
     exact hrise.imp λh e=>absurd (e ▸ h) (List.lt_irrefl _)
    have hkn:kn=false:=by
     cases kn with
     | false=>rfl
     | true =>
      rcases f4 rfl with h | h
      ·cases h
      ·exact absurd hnd h
    subst hkn
    have hout:out=S:=rise_eq (f2.trans hp.symm) (f3 List.Pairwise.nil rfl) hrise
    subst hout
    have:R0=((un,uv,out,()),((cntM db ls:Nat):Int),0,()):=by
     have:F77 (((un,uv,ls,()),(dd,du,db,dt,uid,how,fl,ds,de,by',()),()),())=some (((un,uv,out,()),((cntM db ls:Nat):Int),0,()),()):=by
      simp only [F77,e39,zE,zu,zJ,hdi,e30,e0,hok,zG,hS,c1,Int.le_refl,zU,z8,zr,e1]
     rw [this] at hR0
     cases hR0
     rfl
    subst this
    have w1:zX ((k:Int)+1)=((k+1:Nat):Int):=by rw [zO (by omega) (by omega)];rfl
    have e63:=F401_eq ly [(un,(uv,(out,())))] k (k+1) hly (by simp) (by omega) (by omega)
    simp only [F404,zG,d0,d1,z8,zr,hg,zE,hdi,zJ,e65,w1,e63]
    rfl
structure RelS (m:Mp) (ly:List Ur):Prop where
 fine:FineM m
 rise:ly.Pairwise (λa b=>a.1<b.1)
 len:m.length=ly.length
 same:∀ k:Tx,zF .str m k=ly.find? (λu=>decide (u.1=k))
theorem RelS.nil:RelS [] []:=⟨FineM.nil,List.Pairwise.nil,rfl,λ_=>rfl⟩
theorem RelS.few {m:Mp} {ly:List Ur} (R:RelS m ly):ly.length<=16:=R.len ▸ R.fine.few
theorem fnd_lt {A:List Ur} {nm:Tx} (h:∀ u∈A,u.1<nm):A.find? (λu=>decide (u.1=nm))=none:=by
 rw [List.find?_eq_none]
 intro u hu he
 have:=h u hu
 rw [of_decide_eq_true he] at this
 exact List.lt_irrefl _ this
theorem fnd_gt {A:List Ur} {nm:Tx} (h:∀ u∈A,nm<u.1):A.find? (λu=>decide (u.1=nm))=none:=by
 rw [List.find?_eq_none]
 intro u hu he
 have:=h u hu
 rw [of_decide_eq_true he] at this
 exact List.lt_irrefl _ this
theorem place_facts {ly:List Ur} (hr:ly.Pairwise (λa b=>a.1<b.1)) {nm:Tx} {lo:Nat} (hl:lo<=ly.length) (h3:∀ k,k<lo->(ly.getD k nou).1<nm) (h4:lo<ly.length->¬ (ly.getD lo nou).1<nm) :
  (∀ u∈ly.take lo,u.1<nm) /\
  (((decide (lo<ly.length)&&decide ((ly.getD lo nou).1=nm))=true/\lo<ly.length/\(ly.getD lo nou).1=nm/\∀ u∈ly.drop (lo+1),nm<u.1) \/
   ((decide (lo<ly.length)&&decide ((ly.getD lo nou).1=nm))=false/\∀ u∈ly.drop lo,nm<u.1)):=by
 refine ⟨λu hu=>?_,?_⟩
 ·obtain ⟨i,hi,rfl⟩:=List.mem_take_iff_getElem.1 hu
  have:=h3 i (by omega)
  rwa [getDu_eq (by omega)] at this
 ·by_cases h:lo<ly.length
  ·have hd:ly.drop lo=ly[lo]::ly.drop (lo+1):=List.drop_eq_getElem_cons h
   have hp:(ly.drop lo).Pairwise (λa b=>a.1<b.1):=hr.sublist (List.drop_sublist _ _)
   rw [hd] at hp
   obtain ⟨p1,p2⟩:=List.pairwise_cons.1 hp
   have hge:=h4 h
   by_cases he:(ly.getD lo nou).1=nm
   ·left
    refine ⟨by rw [zW h,zW he];rfl,h,he,λu hu=>?_⟩
    rw [getDu_eq h] at he
    rw [<- he]
    exact p1 u hu
   ·right
    refine ⟨by rw [zz he,Bool.and_false],λu hu=>?_⟩
    have hlt:=wK hge he
    rw [getDu_eq h] at hlt
    rw [hd] at hu
    rcases List.mem_cons.1 hu with rfl | hu
    ·exact hlt
    ·exact List.lt_trans hlt (p1 u hu)
  ·right
   refine ⟨by simp [h],λu hu=>?_⟩
   rw [List.drop_eq_nil_of_le (by omega)] at hu
   cases hu
structure Place (ly:List Ur) (nm:Tx) (lo:Nat) (there:Bool):Prop where
 f41:F400 ((true,nm,()),((ly,()),()))=some (((lo:Int),there,()),((ly,()),()))
 le:lo<=ly.length
 low:∀ u∈ly.take lo,u.1<nm
 yes:there=true->lo<ly.length/\(ly.getD lo nou).1=nm/\∀ u∈ly.drop (lo+1),nm<u.1
 no:there=false->∀ u∈ly.drop lo,nm<u.1
theorem RelS.place {m:Mp} {ly:List Ur} (R:RelS m ly) (nm:Tx):∃ lo there,Place ly nm lo there:=by
 have hf:=R.few
 obtain ⟨lo,h1,h2,h3,h4⟩:=F400_eq ly nm (by omega)
 obtain ⟨k1,k2⟩:=place_facts R.rise h2 h3 h4
 rcases k2 with ⟨k2,k3⟩ | ⟨k2,k3⟩
 ·rw [k2] at h1
  exact ⟨lo,true,h1,h2,k1,λ_=>k3,nofun⟩
 ·rw [k2] at h1
  exact ⟨lo,false,h1,h2,k1,nofun,λ_=>k3⟩
theorem Place.get {m:Mp} {ly:List Ur} (R:RelS m ly) {nm:Tx} {lo:Nat} {there:Bool} (P:Place ly nm lo there):zF .str m nm=if there=true then some (ly.getD lo nou) else none:=by
 rw [R.same]
 have e:ly.find? (λu=>decide (u.1=nm))=(ly.take lo++ly.drop lo).find? (λu=>decide (u.1=nm)):=by rw [List.take_append_drop]
 rw [e,List.find?_append,fnd_lt P.low,Option.none_or]
 cases there with
 | true =>
  obtain ⟨h1,h2,h3⟩:=P.yes rfl
  rw [List.drop_eq_getElem_cons h1,List.find?_cons]
  rw [getDu_eq h1] at h2 ⊢
  rw [zW h2]
  rfl
 | false =>
  rw [fnd_gt (P.no rfl)]
  rfl
theorem mid_rise {A B:List Ur} {u:Ur} (hA:A.Pairwise (λa b=>a.1<b.1)) (hB:B.Pairwise (λa b=>a.1<b.1)) (h1:∀ x∈A,x.1<u.1) (h2:∀ x∈B,u.1<x.1):(A++[u]++B).Pairwise (λa b=>a.1<b.1):=by
 rw [List.pairwise_append]
 refine ⟨?_,hB,λa ha b hb=>?_⟩
 ·rw [List.pairwise_append]
  refine ⟨hA,List.pairwise_singleton _ _,λa ha b hb=>?_⟩
  rw [List.mem_singleton.1 hb]
  exact h1 a ha
 ·rcases List.mem_append.1 ha with ha | ha
  ·exact List.lt_trans (h1 a ha) (h2 b hb)
  ·rw [List.mem_singleton.1 ha]
   exact h2 b hb
theorem fnd_mid {A B:List Ur} {u:Ur} (h1:∀ x∈A,x.1<u.1) (k:Tx):(A++[u]++B).find? (λx=>decide (x.1=k))=if k=u.1 then some u else (A++B).find? (λx=>decide (x.1=k)):=by
 rw [List.find?_append,List.find?_append,List.find?_append]
 by_cases h:k=u.1
 ·subst h
  rw [if_pos rfl,fnd_lt h1,Option.none_or,List.find?_cons,zW rfl]
  rfl
 ·rw [if_neg h,List.find?_cons,zz (λe=>h e.symm),List.find?_nil,Option.or_none]
theorem RelS.put {m:Mp} {ly A B:List Ur} {u:wg} (R:RelS m ly) (F2:FineM (zZ .str m u.1 (u.1,(u.2.1,(u.2.2.1,()))))) (hlen:(zZ .str m u.1 (u.1,(u.2.1,(u.2.2.1,())))).length=(A++B).length+1)
  (hA:A.Pairwise (λa b=>a.1<b.1)) (hB:B.Pairwise (λa b=>a.1<b.1)) (h1:∀ x∈A,x.1<u.1) (h2:∀ x∈B,u.1<x.1)
  (hs:∀ k,k≠u.1->ly.find? (λx=>decide (x.1=k))=(A++B).find? (λx=>decide (x.1=k))) :
  RelS (zZ .str m u.1 (u.1,(u.2.1,(u.2.2.1,())))) (A++[(u.1,(u.2.1,(u.2.2.1,())))]++B) where
 fine:=F2
 rise:=mid_rise hA hB h1 h2
 len:=by
  rw [hlen]
  simp only [yU,va]
  omega
 same:=λk=>by
  rw [vz KE_str R.fine.nodup,fnd_mid (u:=(u.1,(u.2.1,(u.2.2.1,())))) h1]
  cases hq:yh .str k u.1 with
  | true =>
   have:k=u.1:=(KE_str k u.1).1 hq
   rw [if_pos this,zG]
  | false =>
   have:k≠u.1:=λe=>by rw [(KE_str k u.1).2 e] at hq;cases hq
   rw [if_neg this,zJ,R.same,hs k this]
theorem RelS.sub {m:Mp} {ly:List Ur} (R:RelS m ly) (lo:Nat):(ly.take lo).Pairwise (λa b=>a.1<b.1)/\(ly.drop lo).Pairwise (λa b=>a.1<b.1) :=
 ⟨R.rise.sublist (List.take_sublist _ _),R.rise.sublist (List.drop_sublist _ _)⟩
theorem RelS.ins {m:Mp} {ly:List Ur} {u:wg} (R:RelS m ly) {lo:Nat} (P:Place ly u.1 lo false) (hu:Fine u) (hf:m.length<16) :
  RelS (zZ .str m u.1 (u.1,(u.2.1,(u.2.2.1,())))) (ly.take lo++[(u.1,(u.2.1,(u.2.2.1,())))]++ly.drop lo):=by
 have hg:=P.get R
 rw [if_neg (by simp)] at hg
 have hl:(zZ .str m u.1 (u.1,(u.2.1,(u.2.2.1,())))).length=m.length+1:=by
  rw [vy KE_str,hg];rfl
 refine R.put (R.fine.set (by omega) hu rfl) ?_ (R.sub lo).1 (R.sub lo).2 P.low (P.no rfl) λk _=>by rw [List.take_append_drop]
 rw [hl,List.take_append_drop,R.len]
theorem fnd_skip {ly:List Ur} {lo:Nat} {nm k:Tx} (h:lo<ly.length) (he:(ly.getD lo nou).1=nm) (hk:k≠nm):ly.find? (λx=>decide (x.1=k))=(ly.take lo++ly.drop (lo+1)).find? (λx=>decide (x.1=k)):=by
 have e:ly.find? (λx=>decide (x.1=k))=(ly.take lo++ly.drop lo).find? (λx=>decide (x.1=k)):=by rw [List.take_append_drop]
 rw [e,List.find?_append,List.find?_append,List.drop_eq_getElem_cons h,List.find?_cons]
 rw [getDu_eq h] at he
 rw [zz (λe=>hk (e.symm.trans he))]
theorem RelS.swap {m:Mp} {ly:List Ur} {u:wg} (R:RelS m ly) {lo:Nat} (P:Place ly u.1 lo true) (hu:Fine u) :
  RelS (zZ .str m u.1 (u.1,(u.2.1,(u.2.2.1,())))) (ly.take lo++[(u.1,(u.2.1,(u.2.2.1,())))]++ly.drop (lo+1)):=by
 have hg:=P.get R
 rw [if_pos rfl] at hg
 obtain ⟨h1,h2,h3⟩:=P.yes rfl
 have hl:(zZ .str m u.1 (u.1,(u.2.1,(u.2.2.1,())))).length=m.length:=by
  rw [vy KE_str,hg];rfl
 have hf:=R.few
 have hle:=R.len
 refine R.put (R.fine.set (by omega) hu rfl) ?_ (R.sub lo).1 (R.sub (lo+1)).2 P.low h3 λk hk=>fnd_skip h1 h2 hk
 rw [hl,yU,y4,tB]
 omega
theorem RelS.del {m:Mp} {ly:List Ur} {nm:Tx} (R:RelS m ly) {lo:Nat} (P:Place ly nm lo true):RelS (yd .str m nm) (ly.take lo++ly.drop (lo+1)) where
 fine:=R.fine.del nm
 rise:=by
  have hs:(ly.take lo++ly.drop (lo+1)).Sublist ly:=by
   have h:(ly.take lo++ly.drop (lo+1)).Sublist (ly.take lo++ly.drop lo):=List.Sublist.append_left (List.drop_sublist_drop_left _ (Nat.le_succ lo)) _
   rw [List.take_append_drop] at h
   exact h
  exact R.rise.sublist hs
 len:=by
  have hg:=P.get R
  rw [if_pos rfl] at hg
  have:=mapDel_len KE_str hg
  have hle:=R.len
  obtain ⟨h1,-,-⟩:=P.yes rfl
  rw [yU,y4,tB]
  omega
 same:=λk=>by
  obtain ⟨h1,h2,h3⟩:=P.yes rfl
  rw [mapGet_del KE_str R.fine.nodup]
  cases hq:yh .str k nm with
  | true =>
   have:k=nm:=(KE_str k nm).1 hq
   subst this
   rw [zG,List.find?_append,fnd_lt P.low,Option.none_or,fnd_gt h3]
  | false =>
   have:k≠nm:=λe=>by rw [(KE_str k nm).2 e] at hq;cases hq
   rw [zJ,R.same,fnd_skip h1 h2 this]
theorem F398_both {m:Mp} {ly:List Ur} (R:RelS m ly) {u:wg} (hu:Fine u):∃ ly',F398 ((true,u,()),((ly,()),()))=some ((come m u).1,((ly',()),()))/\RelS (come m u).2 ly'/\((come m u).1≠0->(come m u).2=m/\ly'=ly):=by
 obtain ⟨lo,there,P⟩:=R.place u.1
 have hf:=R.few
 have hg:=P.get R
 have hle:=R.len
 obtain ⟨un,uv,ls,⟨⟩⟩:=u
 unfold come
 have f41:=P.f41
 simp only at f41 hg P ⊢
 cases there with
 | true =>
  rw [if_pos rfl] at hg
  rw [hg]
  refine ⟨ly,?_,?_,?_⟩
  ·simp only [F398,f41,zE,zG,Option.isSome_some,↓reduceIte]
  ·simp only [Option.isSome_some,↓reduceIte];exact R
  ·simp
 | false =>
  rw [if_neg (by simp)] at hg
  rw [hg]
  simp only [Option.isSome_none,Bool.false_eq_true,↓reduceIte]
  by_cases h16:m.length=16
  ·rw [if_pos h16]
   refine ⟨ly,?_,R,λ_=>⟨rfl,rfl⟩⟩
   have c:decide ((16:Int)<=((ly.length:Nat):Int))=true:=zW (by omega)
   simp only [F398,f41,zE,zJ,zG,c]
  ·rw [if_neg h16]
   have hf2:=R.fine.few
   have c:decide ((16:Int)<=((ly.length:Nat):Int))=false:=zz (by omega)
   have e63:=F401_eq ly [(un,(uv,(ls,())))] lo lo (by omega) (by simp) P.le P.le
   refine ⟨ly.take lo++[(un,(uv,(ls,())))]++ly.drop lo,?_,?_,?_⟩
   ·simp only [F398,f41,zE,zJ,zG,c,e63]
   ·exact R.ins (u:=(un,uv,ls,())) P hu (by omega)
   ·simp
theorem nm_lt {ls:List Bx} (hr:ls.Pairwise (λa b=>a.1<b.1)) {lo:Nat} (h:lo<ls.length):(∀ b∈ls.take lo,b.1<(ls.getD lo yH).1)/\(∀ b∈ls.drop (lo+1),(ls.getD lo yH).1<b.1):=by
 have hd:ls.drop lo=ls[lo]::ls.drop (lo+1):=List.drop_eq_getElem_cons h
 rw [wU h]
 refine ⟨λb hb=>?_,λb hb=>?_⟩
 ·obtain ⟨i,hi,rfl⟩:=List.mem_take_iff_getElem.1 hb
  exact List.pairwise_iff_getElem.1 hr i lo (by omega) h (by omega)
 ·have hp:(ls.drop lo).Pairwise (λa b=>a.1<b.1):=hr.sublist (List.drop_sublist _ _)
  rw [hd] at hp
  exact (List.pairwise_cons.1 hp).1 b hb
theorem filter_self {ls:List Bx} {nm:Tx} (h:∀ b∈ls,b.1≠nm):but ls nm=ls:=by
 unfold but
 rw [List.filter_eq_self]
 intro b hb
 rw [zz (h b hb)]
 rfl
theorem but_none {ls:List Bx} {nm:Tx} (h:yr ls nm=false):but ls nm=ls:=by
 refine filter_self λb hb e=>?_
 unfold yr at h
 rw [List.any_eq_false] at h
 exact h b hb (zW e)
theorem split_at {ls:List Bx} {lo:Nat} (h:lo<ls.length):ls=ls.take lo++ls.getD lo yH::ls.drop (lo+1):=by
 rw [wU h,<- List.drop_eq_getElem_cons h,List.take_append_drop]
theorem but_at {ls:List Bx} (hr:ls.Pairwise (λa b=>a.1<b.1)) {lo:Nat} (h:lo<ls.length) {nm:Tx} (he:(ls.getD lo yH).1=nm):but ls nm=ls.take lo++ls.drop (lo+1):=by
 obtain ⟨h1,h2⟩:=nm_lt hr h
 rw [he] at h1 h2
 have e1:but (ls.take lo) nm=ls.take lo:=filter_self λb hb e=>absurd (e ▸ h1 b hb) (List.lt_irrefl _)
 have e2:but (ls.drop (lo+1)) nm=ls.drop (lo+1):=filter_self λb hb e=>absurd (e ▸ h2 b hb) (List.lt_irrefl _)
 have hb:∀ l,but l nm=l.filter λb=>!decide (b.1=nm):=λ_=>rfl
 rw [hb] at e1 e2
 conv=>lhs;rw [split_at h,hb,List.filter_append,List.filter_cons]
 rw [zW he,e1,e2]
 rfl
theorem one_none {nm:Tx}:∀ (ls:List Bx) (o:wI),(∀ b∈ls,b.1≠nm)->ls.foldl (oneG nm) o=o
 | [],_,_=>rfl
 | a::t,o,h=>by
  rw [List.foldl_cons,show oneG nm o a=o from if_neg (h a (List.mem_cons_self ..))]
  exact one_none t o λb hb=>h b (List.mem_cons_of_mem _ hb)
theorem one_at {ls:List Bx} (hr:ls.Pairwise (λa b=>a.1<b.1)) {lo:Nat} (h:lo<ls.length) {nm:Tx} (he:(ls.getD lo yH).1=nm) (o:wI):ls.foldl (oneG nm) o=yI (ls.getD lo yH):=by
 obtain ⟨h1,h2⟩:=nm_lt hr h
 rw [he] at h1 h2
 conv=>lhs;rw [split_at h,List.foldl_append,List.foldl_cons]
 have k:∀ o',oneG nm o' (ls.getD lo yH)=yI (ls.getD lo yH):=λ_=>if_pos he
 rw [k,one_none (ls.drop (lo+1)) _ λb hb e=>absurd (e ▸ h2 b hb) (List.lt_irrefl _)]
theorem set_split {ls:List Bx} {lo:Nat} (h:lo<ls.length) (b:Bx):ls.set lo b=ls.take lo++[b]++ls.drop (lo+1):=by
 rw [List.set_eq_take_append_cons_drop,if_pos h]
 simp
theorem lay_set {ls:List Bx} (hr:ls.Pairwise (λa b=>a.1<b.1)) {lo:Nat} (h:lo<ls.length) (b:Bx) (he:b.1=(ls.getD lo yH).1):lay1 b (ls.take lo++ls.drop (lo+1))=ls.set lo b:=by
 obtain ⟨h1,h2⟩:=nm_lt hr h
 refine rise_eq ?_ (lay1_rise _ _ (hr.sublist (del_sub ls lo)) λx hx e=>?_) (set_rise hr he h)
 ·rw [set_split h]
  refine (vZ _ _).trans ?_
  rw [lAs]
  exact List.perm_middle.symm
 ·rw [he] at e
  rcases List.mem_append.1 hx with hx | hx
  ·exact absurd (e ▸ h1 x hx) (List.lt_irrefl _)
  ·exact absurd (e ▸ h2 x hx) (List.lt_irrefl _)
theorem lay_ins {ls:List Bx} (hr:ls.Pairwise (λa b=>a.1<b.1)) {lo:Nat} {x:Bx} (h1:∀ k,k<lo->(ls.getD k yH).1<x.1) (h2:∀ k,lo<=k->k<ls.length->x.1<(ls.getD k yH).1) (hn:∀ b∈ls,b.1≠x.1) :
  lay1 x ls=ls.take lo++[x]++ls.drop lo:=by
 refine rise_eq ?_ (lay1_rise _ _ hr hn) (ins_rise hr h1 h2)
 refine (vZ _ _).trans ?_
 rw [lAs]
 have:=(List.perm_middle (a:=x) (l₁:=ls.take lo) (l₂:=ls.drop lo)).symm
 rw [List.take_append_drop] at this
 exact this
structure Both (m:Mp) (ly:List Ur) (d:Dd):Prop where
 ex:∃ n e m' n' ly',F62 ((true,d,()),(((),()),m,()))=some ((n,e,()),(((),()),m',()))/\ux ((true,d,()),((ly,()),()))=some ((n',e,()),((ly',()),()))/\(e=0->n'=n)/\RelS m' ly'/\(e≠0->m'=m/\ly'=ly)
abbrev Small3 (d:Dd):Prop:=d.2.1.length<=1050000/\d.2.2.1.length<=1050000/\d.2.2.2.1.length<=1050000
theorem kept_both {m:Mp} {ly:List Ur} (R:RelS m ly) {nm:Tx} {lo:Nat} (P:Place ly nm lo true) (r:wg×Int×Int×Unit) (h:r.2.2.1=0->Fine r.1/\r.1.1=nm) :
  RelS (kept m nm r).2 (if r.2.2.1=0 then ly.take lo++[(r.1.1,(r.1.2.1,(r.1.2.2.1,())))]++ly.drop (lo+1) else ly)/\(r.2.2.1≠0->(kept m nm r).2=m):=by
 unfold kept
 simp only
 by_cases h0:r.2.2.1=0
 ·rw [if_pos h0,if_pos h0]
  obtain ⟨h1,h2⟩:=h h0
  subst h2
  exact ⟨R.swap P h1,λh=>absurd h0 h⟩
 ·rw [if_neg h0,if_neg h0]
  exact ⟨R,λ_=>rfl⟩
theorem Both.of {m:Mp} {ly:List Ur} (R:RelS m ly) {d:Dd} {lo:Nat} (P:Place ly d.2.1 lo true) {r:wg×Int×Int×Unit} (h:r.2.2.1=0->Fine r.1/\r.1.1=d.2.1)
  (h1:F62 ((true,d,()),(((),()),m,()))=some ((kept m d.2.1 r).1,(((),()),(kept m d.2.1 r).2,())))
  (h2:ux ((true,d,()),((ly,()),()))=some ((if r.2.2.1=0 then (r.2.1,0,()) else (0,r.2.2.1,())),(((if r.2.2.1=0 then ly.take lo++[(r.1.1,(r.1.2.1,(r.1.2.2.1,())))]++ly.drop (lo+1) else ly),()),()))):Both m ly d:=by
 obtain ⟨k1,k2⟩:=kept_both R P r h
 by_cases h0:r.2.2.1=0
 ·rw [if_pos h0] at h2 k1
  rw [if_pos h0] at h2
  exact ⟨r.2.1,0,_,_,_,by rw [h1];unfold kept;simp only [h0],h2,λ_=>rfl,k1,λh=>absurd rfl h⟩
 ·rw [if_neg h0] at h2 k1
  rw [if_neg h0] at h2
  exact ⟨r.2.1,r.2.2.1,_,_,_,by rw [h1];unfold kept;rfl,h2,λh=>absurd h h0,k1,λ_=>⟨k2 h0,rfl⟩⟩
theorem deed_both {m:Mp} {ly:List Ur} (R:RelS m ly) (d:Dd) (hs:Small3 d):Both m ly d:=by
 obtain ⟨s1,s2,s3⟩:=hs
 have hml:(1050000:Nat)<=maxLen:=by decide
 have e60:=F397_F73 d (by omega) (by omega) (by omega)
 obtain ⟨e0,hc,hC⟩:=F73_ex d (by omega)
 rw [hc] at e60
 have hf:=R.few
 by_cases he0:e0=0
 rotate_left
 ·refine ⟨0,e0,m,0,ly,F62_bad m d e0 hc he0,?_,λ_=>rfl,R,λ_=>⟨rfl,rfl⟩⟩
  obtain ⟨dd,du,db,dt,uid,how,fl,ds,de,by',⟨⟩⟩:=d
  simp only [ux,e60,zE,zz he0,yq,zG]
 subst he0
 obtain ⟨C,hE⟩:=hC rfl
 have hrange:1<=d.1/\d.1<=9:=by
  by_cases h:1<=d.1/\d.1<=9
  ·exact h
  ·exfalso
   obtain ⟨dd,du,db,dt,uid,how,fl,ds,de,by',⟨⟩⟩:=d
   have c:(decide (dd<1)||decide (9<dd))=true:=by
    rw [Bool.or_eq_true,xX,xX];simp only at h;omega
   simp only [uS,c,zG,xQ,Prod.mk.injEq] at e60
   omega
 by_cases h1:d.1=1
 ·obtain ⟨ly',e61,R',hne⟩:=F398_both R (new_fine C.user)
  refine ⟨1,_,_,1,ly',F62_open m d hc h1,?_,λ_=>rfl,R',hne⟩
  obtain ⟨dd,du,db,dt,uid,how,fl,ds,de,by',⟨⟩⟩:=d
  simp only at h1 e61 ⊢
  subst h1
  unfold tc inbx at e61
  simp only [ux,e60,zE,zU,zu,zJ,zG,e61]
  rfl
 by_cases h8:d.1=8
 ·obtain ⟨u,h75,_,hF⟩:=hE h8
  obtain ⟨ly',e61,R',hne⟩:=F398_both R hF
  refine ⟨0,_,_,0,ly',F62_enter m d u hc h8 h75,?_,λ_=>rfl,R',hne⟩
  obtain ⟨dd,du,db,dt,uid,how,fl,ds,de,by',⟨⟩⟩:=d
  have e62:=F399_took by'
  have e75:=F75_took by'
  simp only at h75 h8
  rw [h75] at e75
  subst h8
  simp only [xQ,Prod.mk.injEq,and_true] at e75
  obtain ⟨q1,q2⟩:=e75
  rw [<- q1] at e62
  obtain ⟨un,uv,ls,⟨⟩⟩:=u
  simp only at e62
  simp only [ux,e60,zE,zU,zu,zJ,zG,show decide ((8:Int)=1)=false from rfl,e62,e61]
 obtain ⟨lo,there,P⟩:=R.place d.2.1
 have hg:=P.get R
 have f41:=P.f41
 cases there with
 | false =>
  rw [if_neg (by simp)] at hg
  refine ⟨0,9,m,0,ly,F62_gone m d hc h1 h8 hg,?_,λ_=>rfl,R,λ_=>⟨rfl,rfl⟩⟩
  obtain ⟨dd,du,db,dt,uid,how,fl,ds,de,by',⟨⟩⟩:=d
  simp only at h1 h8 f41
  simp only [ux,e60,zE,zU,zu,zJ,zG,zz h1,zz h8,f41,yq]
 | true =>
 rw [if_pos rfl] at hg
 obtain ⟨p1,p2,p3⟩:=P.yes rfl
 have w1:zX ((lo:Int)+1)=((lo+1:Nat):Int):=by rw [zO (by omega) (by omega)];rfl
 by_cases h9:d.1=9
 ·refine ⟨0,0,_,0,_,F62_leave m d _ hc h9 hg,?_,λ_=>rfl,R.del P,λh=>absurd rfl h⟩
  have e63:=F401_eq ly [] lo (lo+1) (by omega) (by simp) P.le (by omega)
  rw [List.append_nil] at e63
  obtain ⟨dd,du,db,dt,uid,how,fl,ds,de,by',⟨⟩⟩:=d
  simp only at h1 h8 h9 f41
  subst h9
  simp only [ux,e60,zE,zU,zu,zJ,zG,show decide ((9:Int)=1)=false from rfl,show decide ((9:Int)=8)=false from rfl,f41,w1,e63]
 obtain ⟨u,hu⟩:∃ u,ly.getD lo nou=u:=⟨_,rfl⟩
 rw [hu] at hg p2
 obtain ⟨Fu,hk⟩:=R.fine.fine d.2.1 u hg
 have Gu:Good (usr u):=Fu.good
 have g1:=Gu.few
 have g2:=Gu.rise
 have d0:decide ((lo:Int)<((ly.length:Nat):Int))=true:=zW (by omega)
 have d1:decide ((0:Int)<=(lo:Int))=true:=zW (by omega)
 have e40:=F402_eq (usr u) d.2.2.1 (by omega)
 have e63:=λx:Ur=>F401_eq ly [x] lo (lo+1) (by omega) (by simp) P.le (by omega)
 have hex:∃ x,x=u:=⟨u,rfl⟩
 obtain ⟨un,uv,ls,⟨⟩⟩:=u
 have hu':ly.getD lo (([]:Tx),((0:Int),(([]:(List Bx)),())))=(un,(uv,(ls,()))):=hu
 unfold usr at e40 Gu g1 g2
 simp only at e40 g1 g2
 by_cases h2:d.1=2
 ·obtain ⟨lb,e1,e2,e3,e4,e5,e6⟩:=F76_eq (un,uv,ls,()) d (by simp only;omega) g2
  simp only at e2 e3 e4 e5 e6
  refine Both.of R P (r:=xz (un,uv,ls,()) lb d) (λhe=>?_) (F62_shape m d _ lb hc (.inl h2) hg e1) ?_
  ·obtain ⟨q1,q2⟩:=make_fine Fu d h2 e2 e3 e4 e6 (C.box h2) he
   exact ⟨q1,q2.trans hk⟩
  ·have hrB:=C.box h2
   by_cases hE0:(xz (un,uv,ls,()) lb d).2.2.1=0
   ·obtain ⟨-,hh,hsh⟩:=make_good Gu d h2 e2 e3 e4 e6 hE0
    simp only at hh hsh
    have hv:=Gu.valid
    have hno:¬ (6<=ls.length\/4294967295<=uv):=by
     unfold xz at hE0
     rw [if_pos h2,if_neg (by simp only;rw [hh];simp)] at hE0
     simp only at hE0 hv
     by_cases h':ls.length=6\/uv=4294967295
     ·rw [if_pos h'] at hE0;simp at hE0
     ·omega
    rw [hsh]
    have e64:=F403_eq ls (d.2.2.1,(uv+1,(1,([],())))) (by omega)
    rw [lay_ins g2 e3 (λk h1 h2=>wK (e4 k h1 h2) (e6 hh k h2)) (λb hb=>by
     obtain ⟨k,hk,rfl⟩:=List.getElem_of_mem hb
     have:=e6 hh k hk
     rwa [wU hk] at this)] at e64
    rw [hh,but_none hh] at e40
    obtain ⟨dd,du,db,dt,uid,how,fl,ds,de,by',⟨⟩⟩:=d
    simp only at h1 h2 h8 f41 e40 hv e63 e64
    subst h2
    have hw:zX (uv+1)=uv+1:=zO (by omega) (by omega)
    have c2:(decide ((6:Int)<=((ls.length:Nat):Int))||decide ((4294967295:Int)<=uv))=false:=by
     rw [Bool.or_eq_false_iff,decide_eq_false_iff_not,decide_eq_false_iff_not];omega
    unfold yI at e64
    simp only at e64
    simp only [ux,e60,zE,zU,zu,zJ,zG,show decide ((2:Int)=1)=false from rfl,show decide ((2:Int)=8)=false from rfl,show decide ((2:Int)=9)=false from rfl,f41,d0,d1,z8,zr,hu',e40,c2,hw,e64,w1,e63,↓reduceIte]
   ·unfold xz at hE0 ⊢
    rw [if_pos h2] at hE0 ⊢
    simp only at hE0 ⊢
    cases hh:yr ls d.2.2.1 with
    | true =>
     rw [hh] at e40
     simp only [↓reduceIte]
     obtain ⟨dd,du,db,dt,uid,how,fl,ds,de,by',⟨⟩⟩:=d
     simp only at h1 h2 h8 f41 e40
     subst h2
     simp only [ux,e60,zE,zU,zu,zJ,zG,show decide ((2:Int)=1)=false from rfl,show decide ((2:Int)=8)=false from rfl,show decide ((2:Int)=9)=false from rfl,f41,d0,d1,z8,zr,hu',e40]
     rfl
    | false =>
     rw [hh] at e40 hE0
     simp only [Bool.false_eq_true,↓reduceIte] at hE0 ⊢
     by_cases hfull:ls.length=6\/uv=4294967295
     ·rw [if_pos hfull]
      have c2:(decide ((6:Int)<=((ls.length:Nat):Int))||decide ((4294967295:Int)<=uv))=true:=by
       rw [Bool.or_eq_true,xX,xX];omega
      obtain ⟨dd,du,db,dt,uid,how,fl,ds,de,by',⟨⟩⟩:=d
      simp only at h1 h2 h8 f41 e40
      subst h2
      simp only [ux,e60,zE,zU,zu,zJ,zG,show decide ((2:Int)=1)=false from rfl,show decide ((2:Int)=8)=false from rfl,show decide ((2:Int)=9)=false from rfl,f41,d0,d1,z8,zr,hu',e40,c2]
      rfl
     ·rw [if_neg hfull] at hE0
      exact absurd rfl hE0
 by_cases h7:d.1=7
 ·cases hh:yr ls d.2.2.1 with
  | false =>
   have e77:F77 (((un,uv,ls,()),d,()),())=some (((un,uv,ls,()),0,9,()),()):=by
    obtain ⟨lb,e39,_,_,_,_,_⟩:=F91_eq (un,uv,ls,()) d.2.2.1 (by simp only;omega) g2
    simp only at e39
    rw [hh] at e39
    obtain ⟨dd,du,db,dt,uid,how,fl,ds,de,by',⟨⟩⟩:=d
    simp only at e39
    simp only [F77,e39,zE,yq,zG]
   refine Both.of R P (r:=((un,uv,ls,()),0,9,())) (λhe=>absurd he (by simp)) (sG m d _ _ hc h7 hg e77) ?_
   rw [hh] at e40
   obtain ⟨dd,du,db,dt,uid,how,fl,ds,de,by',⟨⟩⟩:=d
   simp only at h1 h2 h7 h8 f41 e40
   subst h7
   simp only [ux,e60,zE,zU,zu,zJ,zG,show decide ((7:Int)=1)=false from rfl,show decide ((7:Int)=8)=false from rfl,show decide ((7:Int)=9)=false from rfl,show decide ((7:Int)=2)=false from rfl,f41,d0,d1,z8,zr,hu',e40,yq]
   rfl
  | true =>
   obtain ⟨r,e77,hr,e65⟩:=ren_both Fu d s3 hh ly lo p1 (by omega) hu
   refine Both.of R P (r:=r) (λhe=>?_) (sG m d _ _ hc h7 hg e77) ?_
   ·obtain ⟨q1,q2⟩:=hr he
    exact ⟨q1,q2.trans hk⟩
   ·rw [hh] at e40
    obtain ⟨dd,du,db,dt,uid,how,fl,ds,de,by',⟨⟩⟩:=d
    simp only at h1 h2 h7 h8 f41 e40
    subst h7
    simp only [ux,e60,zE,zU,zu,zJ,zG,show decide ((7:Int)=1)=false from rfl,show decide ((7:Int)=8)=false from rfl,show decide ((7:Int)=9)=false from rfl,show decide ((7:Int)=2)=false from rfl,f41,d0,d1,z8,zr,hu',e40,e65]
 by_cases h3:d.1=3
 ·obtain ⟨lb,e1,e2,e3,e4,e5,e6⟩:=F76_eq (un,uv,ls,()) d (by simp only;omega) g2
  simp only at e2 e3 e4 e5 e6
  refine Both.of R P (r:=xz (un,uv,ls,()) lb d) (λhe=>?_) (F62_shape m d _ lb hc (.inr h3) hg e1) ?_
  ·obtain ⟨q1,q2⟩:=drop_fine Fu d h2 e5 he
   exact ⟨q1,q2.trans hk⟩
  ·by_cases hE0:(xz (un,uv,ls,()) lb d).2.2.1=0
   ·obtain ⟨-,hsh⟩:=drop_good Gu d h2 hE0
    simp only at hsh
    have hq:yr ls d.2.2.1=true/\d.2.2.1≠inbx:=by
     unfold xz at hE0
     rw [if_neg h2] at hE0
     simp only at hE0
     cases hh:yr ls d.2.2.1 with
     | false=>rw [hh] at hE0;simp at hE0
     | true =>
      refine ⟨rfl,λe=>?_⟩
      rw [hh,e] at hE0
      simp at hE0
    obtain ⟨hh,hni⟩:=hq
    obtain ⟨k1,k2⟩:=e5 hh
    rw [hsh]
    rw [hh,but_at g2 k1 k2] at e40
    have hni':decide (d.2.2.1=([73,78,66,79,88]:Tx))=false:=zz hni
    obtain ⟨dd,du,db,dt,uid,how,fl,ds,de,by',⟨⟩⟩:=d
    simp only at h1 h2 h3 h8 f41 e40 hni' e63
    subst h3
    simp only [ux,e60,zE,zU,zu,zJ,zG,show decide ((3:Int)=1)=false from rfl,show decide ((3:Int)=8)=false from rfl,show decide ((3:Int)=9)=false from rfl,show decide ((3:Int)=2)=false from rfl,show decide ((3:Int)=7)=false from rfl,f41,d0,d1,z8,zr,hu',e40,hni',w1,e63,↓reduceIte]
   ·unfold xz at hE0 ⊢
    rw [if_neg h2] at hE0 ⊢
    simp only at hE0 ⊢
    cases hh:yr ls d.2.2.1 with
    | false =>
     rw [hh] at e40
     simp only [↓reduceIte]
     obtain ⟨dd,du,db,dt,uid,how,fl,ds,de,by',⟨⟩⟩:=d
     simp only at h1 h2 h3 h8 f41 e40
     subst h3
     simp only [ux,e60,zE,zU,zu,zJ,zG,show decide ((3:Int)=1)=false from rfl,show decide ((3:Int)=8)=false from rfl,show decide ((3:Int)=9)=false from rfl,show decide ((3:Int)=2)=false from rfl,f41,d0,d1,z8,zr,hu',e40,yq]
     rfl
    | true =>
     rw [hh] at e40 hE0
     simp only [Bool.true_eq_false,↓reduceIte] at hE0 ⊢
     by_cases hin:d.2.2.1=inbx
     ·rw [if_pos hin]
      have hin':decide (d.2.2.1=([73,78,66,79,88]:Tx))=true:=zW hin
      obtain ⟨dd,du,db,dt,uid,how,fl,ds,de,by',⟨⟩⟩:=d
      simp only at h1 h2 h3 h8 f41 e40 hin'
      subst h3
      simp only [ux,e60,zE,zU,zu,zJ,zG,show decide ((3:Int)=1)=false from rfl,show decide ((3:Int)=8)=false from rfl,show decide ((3:Int)=9)=false from rfl,show decide ((3:Int)=2)=false from rfl,show decide ((3:Int)=7)=false from rfl,f41,d0,d1,z8,zr,hu',e40,hin']
      rfl
     ·rw [if_neg hin] at hE0
      exact absurd rfl hE0
 rcases F78_eq (un,uv,ls,()) d (by simp only;omega) Gu.len g2 with ⟨hh,e1⟩ | ⟨lb,l1,l2,e1⟩
 ·refine Both.of R P (r:=((un,uv,ls,()),0,9,())) (λhe=>absurd he (by simp)) (F62_box m d _ _ hc h1 h2 h3 h7 h8 h9 hg e1) ?_
  simp only at hh
  rw [hh] at e40
  obtain ⟨dd,du,db,dt,uid,how,fl,ds,de,by',⟨⟩⟩:=d
  simp only at h1 h2 h3 h7 h8 h9 f41 e40
  simp only [ux,e60,zE,zU,zu,zJ,zG,zz h1,zz h2,zz h8,zz h9,f41,d0,d1,z8,zr,hu',e40,yq]
  rfl
 ·simp only at l1 l2
  refine Both.of R P (r:=boxd (un,uv,ls,()) lb d) (λhe=>?_) (F62_box m d _ _ hc h1 h2 h3 h7 h8 h9 hg e1) ?_
  ·obtain ⟨q1,q2⟩:=boxd_fine Fu l1 d he
   exact ⟨q1,q2.trans hk⟩
  ·have hh:yr ls d.2.2.1=true:=by
    unfold yr
    exact List.any_eq_true.2 ⟨_,uA l1,zW l2⟩
   rw [hh,but_at g2 l1 l2,one_at g2 l1 l2] at e40
   have Rb:Right (yI (ls.getD lb yH)):=Gu.each _ (uA l1)
   have hbx:∃ q:(Int×Int×wI),q=((did (yI (ls.getD lb yH)) d).2.2,(did (yI (ls.getD lb yH)) d).2.1,(did (yI (ls.getD lb yH)) d).1):=⟨_,rfl⟩
   have hkept:=did_kept Rb d
   have key:∀ (B:wI) (n e:Int),did (yI (ls.getD lb yH)) d=(B,n,e) ->
     (∀ x,ux ((true,d,()),((ly,()),()))=x<->(cond (!(decide (e=0))) (some (((0:Int),e,()),((ly,()),()))) (Option.bind (F403 ((ls.take lb++ls.drop (lb+1),B,()),())) λr33=>Option.bind (F347 (((un,uv,r33.2.1,()),()),())) λr34 =>
      cond (!(decide (r34.1=(0:Int)))) (some (((0:Int),(8:Int),()),((ly,()),()))) (Option.bind (F401 ((true,(lo:Int),((lo+1:Nat):Int),[(un,(uv,(r33.2.1,())))],()),((ly,()),()))) λr35=>some ((n,(0:Int),()),((r35.2.2.1,()),())))))=x):=by
    intro B n e hd x
    have h456:d.1=4\/d.1=5\/d.1=6:=by omega
    unfold did at hd
    obtain ⟨⟨bn,bv,bx,bl,⟨⟩⟩,hgb⟩:∃ b,ls.getD lb yH=b:=⟨_,rfl⟩
    rw [hgb] at hd e40
    unfold yI at hd e40
    simp only at hd e40
    obtain ⟨dd,du,db,dt,uid,how,fl,ds,de,by',⟨⟩⟩:=d
    simp only at h1 h2 h3 h7 h8 h9 f41 e40 hd h456
    rcases h456 with rfl | rfl | rfl
    ·have e66:=F405_eq (bn,bv,bx,bl,()) fl by'
     rw [if_pos rfl] at hd
     generalize add (bn,bv,bx,bl,()) fl by'=q at e66 hd
     obtain ⟨⟨qn,qv,qx,ql,⟨⟩⟩,qm,qe,⟨⟩⟩:=q
     cases hd
     simp only [ux,e60,zE,zU,zu,zJ,zG,show decide ((4:Int)=1)=false from rfl,show decide ((4:Int)=8)=false from rfl,show decide ((4:Int)=9)=false from rfl,show decide ((4:Int)=2)=false from rfl,show decide ((4:Int)=7)=false from rfl,show decide ((4:Int)=3)=false from rfl,f41,d0,d1,z8,zr,hu',e40,e66,w1]
    ·have e67:=F406_eq (bn,bv,bx,bl,()) uid how fl
     rw [if_neg (by decide),if_pos rfl] at hd
     generalize flag (bn,bv,bx,bl,()) uid how fl=q at e67 hd
     obtain ⟨⟨qn,qv,qx,ql,⟨⟩⟩,qe,⟨⟩⟩:=q
     cases hd
     simp only [ux,e60,zE,zU,zu,zJ,zG,show decide ((5:Int)=1)=false from rfl,show decide ((5:Int)=8)=false from rfl,show decide ((5:Int)=9)=false from rfl,show decide ((5:Int)=2)=false from rfl,show decide ((5:Int)=7)=false from rfl,show decide ((5:Int)=3)=false from rfl,show decide ((5:Int)=4)=false from rfl,f41,d0,d1,z8,zr,hu',e40,e67,w1]
    ·have e68:=F407_eq (bn,bv,bx,bl,()) uid
     rw [if_neg (by decide),if_neg (by decide),if_pos rfl] at hd
     generalize cut (bn,bv,bx,bl,()) uid=q at e68 hd
     obtain ⟨⟨qn,qv,qx,ql,⟨⟩⟩,qe,⟨⟩⟩:=q
     cases hd
     simp only [ux,e60,zE,zU,zu,zJ,zG,show decide ((6:Int)=1)=false from rfl,show decide ((6:Int)=8)=false from rfl,show decide ((6:Int)=9)=false from rfl,show decide ((6:Int)=2)=false from rfl,show decide ((6:Int)=7)=false from rfl,show decide ((6:Int)=3)=false from rfl,show decide ((6:Int)=4)=false from rfl,show decide ((6:Int)=5)=false from rfl,f41,d0,d1,z8,zr,hu',e40,e68,w1]
   obtain ⟨⟨B,n,e⟩,hd⟩:∃ q,did (yI (ls.getD lb yH)) d=q:=⟨_,rfl⟩
   rw [key B n e hd]
   rw [hd] at hkept
   unfold boxd
   simp only
   rw [hd]
   simp only at hkept ⊢
   by_cases he:e=0
   ·subst he
    have K:=hkept rfl
    have hBn:(wi B).1=(ls.getD lb yH).1:=K.name
    have hB:B=yI (wi B):=by
     obtain ⟨qn,qv,qx,ql,⟨⟩⟩:=B
     rfl
    have e64:=F403_eq (ls.take lb++ls.drop (lb+1)) (wi B) (by rw [yU,y4,tB];omega)
    rw [<- hB,lay_set g2 l1 (wi B) hBn] at e64
    have hnames:∀ b∈ls.set lb (wi B),b.1.length<=24:=λb hb=>by
     rcases List.mem_or_eq_of_mem_set hb with h | rfl
     ·exact w7 (Fu.names b h)
     ·rw [hBn];exact w7 (Fu.names _ (uA l1))
    simp only [ne_eq,not_true_eq_false,↓reduceIte,zU,zu,zJ,e64,zE]
    by_cases hw:wth (ls.set lb (wi B))=true
    ·have hb0:boxd (un,uv,ls,()) lb d=((un,uv,ls.set lb (wi B),()),n,0,()):=by
      unfold boxd
      simp only
      rw [hd]
      simp [hw]
     obtain ⟨q1,q2⟩:=boxd_fine Fu l1 d (by rw [show usr (un,(uv,(ls,())))=(un,uv,ls,()) from rfl,hb0])
     rw [show usr (un,(uv,(ls,())))=(un,uv,ls,()) from rfl,hb0] at q1
     have e13:=F347_eq q1
     rw [if_pos hw]
     simp only [e13,zE,zU,zu,zJ,e63,↓reduceIte]
    ·rw [if_neg hw]
     have hul:un.length<=24:=user_le Fu.user
     have e13:=F347_F44 (un,uv,ls.set lb (wi B),()) (by simp only;omega) λb hb=>Nat.le_trans (hnames b hb) (by decide)
     obtain ⟨e',e44,hF⟩:=F47_ex (un,uv,ls.set lb (wi B),()) (by simp only;omega)
     rw [e44] at e13
     have hne:e'≠0:=λh=>hw (hF h).room
     simp only [e13,zE,zz hne,yq,zG]
     rfl
   ·rw [if_pos he]
    rw [zz he,if_neg he,if_neg he]
    rfl
abbrev Sa27:Type:=(Bool×Unit×(List Dd)×Int×Int×Unit)×((Unit×Unit)×Mp×(List Int)×Unit)
abbrev Sa24:Type:=(Bool×(List Dd)×(List Ur)×Unit×Int×Unit)×(((List Ur)×Unit)×(List Int)×Unit)
abbrev R24:Type:=((Bool×Unit×Unit)×(((List Ur)×Unit)×(List Int)×Unit))⊕((Bool×Unit×Int×Int×Unit)×(((List Ur)×Unit)×(List Int)×Unit))
def Ran (was:List Ur) (n:Nat) (r:R27) (s:R24):Prop :=
 (∃ m' ly' o,r=.inl ((true,(),()),(((),()),m',o,()))/\s=.inl ((true,(),()),((ly',()),o,()))/\RelS m' ly'/\o.length=n) \/
 (∃ (i:Nat) (e:Int) (m':Mp),e≠0/\i<n/\r=.inr ((true,(),(i:Int),e,()),(((),()),m',[],()))/\s=.inr ((true,(),(i:Int),e,()),((was,()),[],())))
theorem L45_L24 {m:Mp} {ly:List Ur} (R:RelS m ly) (l:List Dd) (hs:∀ d∈l,Small3 d) (hl:l.length<=12) :
  ∃ r s,L45_0 ((true,(),l,((l.length:Nat):Int),(0:Int),()),(((),()),m,([]:List Int),()))=some r/\L364_0 ((true,l,ly,(),(0:Int),()),((ly,()),([]:List Int),()))=some s/\Ran ly l.length r s:=by
 obtain ⟨r0,h0,-⟩:=L45_ex R.fine l (λd hd=>⟨Nat.le_trans (hs d hd).1 (by decide),Nat.le_trans (hs d hd).2.2 (by decide)⟩) hl
 have hstep:∀ (p:Sa27) (q:Sa24),(∃ (i:Nat) (m':Mp) (ly':List Ur) (o:List Int),i<=l.length/\o.length=i/\RelS m' ly'/\p=((true,(),l,((l.length:Nat):Int),(i:Int),()),(((),()),m',o,()))/\q=((true,l,ly,(),(i:Int),()),((ly',()),o,()))) ->
   (wb p=none/\B364_0 q=none)\/(∃ p' q',wb p=some (.inl p')/\B364_0 q=some (.inl q')/\(∃ (i:Nat) (m':Mp) (ly':List Ur) (o:List Int),i<=l.length/\o.length=i/\RelS m' ly'/\p'=((true,(),l,((l.length:Nat):Int),(i:Int),()),(((),()),m',o,()))/\q'=((true,l,ly,(),(i:Int),()),((ly',()),o,()))))\/(∃ r s,wb p=some (.inr r)/\B364_0 q=some (.inr s)/\Ran ly l.length r s):=by
  rintro p q ⟨i,m',ly',o,hi,ho,R',rfl,rfl⟩
  right
  rcases Nat.lt_or_ge i l.length with h | h
  ·have d0:decide ((i:Int)<((l.length:Nat):Int))=true:=zW (by omega)
   have d1:decide ((0:Int)<=(i:Int))=true:=zW (by omega)
   have w1:zX ((i:Int)+1)=((i+1:Nat):Int):=by rw [zO (by omega) (by omega)];rfl
   obtain ⟨d,hd⟩:∃ d,l[i]=d:=⟨_,rfl⟩
   have hg:∀ z,l.getD i z=d:=λz=>by rw [xk,List.getElem?_eq_getElem h,hd];rfl
   obtain ⟨n,e,m2,n',ly2,h48,h43,hn,R2,hne⟩:=(deed_both R' d (hs d (by rw [<- hd];exact List.getElem_mem h))).ex
   obtain ⟨dd,du,db,dt,uid,how,fl,ds,de,by',⟨⟩⟩:=d
   by_cases he:e=0
   ·subst he
    obtain rfl:=hn rfl
    left
    have hb:zC (o.length+[n'].length) 8=true:=zT (by simp only [va];omega)
    refine ⟨((true,(),l,((l.length:Nat):Int),((i+1:Nat):Int),()),(((),()),m2,o++[n'],())),((true,l,ly,(),((i+1:Nat):Int),()),((ly2,()),o++[n'],())),?_,?_,i+1,m2,ly2,o++[n'],h,by simp [ho],R2,rfl,rfl⟩
    ·simp only [wb,d0,d1,z8,zG,zE,zr,hg,h48,zU,zu,zJ,hb,w1]
    ·simp only [B364_0,d0,d1,z8,zG,zE,zr,hg,h43,zU,zu,zJ,hb,w1]
   ·right
    refine ⟨.inr ((true,(),(i:Int),e,()),(((),()),m2,[],())),.inr ((true,(),(i:Int),e,()),((ly,()),[],())),?_,?_,.inr ⟨i,e,m2,he,h,rfl,rfl⟩⟩
    ·simp only [wb,d0,d1,z8,zG,zE,zr,hg,h48,zz he,yq]
    ·simp only [B364_0,d0,d1,z8,zG,zE,zr,hg,h43,zz he,yq]
  ·have hi':i=l.length:=by omega
   subst hi'
   right
   refine ⟨.inl ((true,(),()),(((),()),m',o,())),.inl ((true,(),()),((ly',()),o,())),?_,?_,.inl ⟨m',ly',o,rfl,rfl,R',ho⟩⟩
   ·simp only [wb,Int.lt_irrefl,yp,zJ]
   ·simp only [B364_0,Int.lt_irrefl,yp,zJ]
 rcases loop_sim (f:=wb) (g:=B364_0) _ _ hstep ((true,(),l,((l.length:Nat):Int),(0:Int),()),(((),()),m,([]:List Int),())) ((true,l,ly,(),(0:Int),()),((ly,()),([]:List Int),())) ⟨0,m,ly,[],Nat.zero_le _,rfl,R,rfl,rfl⟩ with ⟨h1,-⟩ | h
 ·have:L45_0 ((true,(),l,((l.length:Nat):Int),(0:Int),()),(((),()),m,([]:List Int),()))=none:=h1
  rw [this] at h0
  cases h0
 ·exact h
structure Done (m:Mp) (ly:List Ur) (l:List Dd) (i e:Int) (m':Mp) (ly':List Ur) (o:List Int):Prop where
 did:F38 ((true,l,()),(((),()),m,()))=some (((),i,e,()),(((),()),m',o,()))
 ref:F364 ((true,l,()),((ly,()),()))=some (((),i,e,()),((ly',()),o,()))
 rel:RelS m' ly'
 bad:e≠0->m'=m/\ly'=ly/\o=[]/\i<=((l.length:Nat):Int)
 good:e=0->o.length=l.length
theorem do_both {m:Mp} {ly:List Ur} (R:RelS m ly) (l:List Dd) (hs:∀ d∈l,Small3 d):∃ i e m' ly' o,Done m ly l i e m' ly' o:=by
 have key:∃ (i e:Int) (m1:Mp) (ly':List Ur) (o:List Int),F45 ((true,l,()),(((),()),m,()))=some (((),i,e,()),(((),()),m1,o,()))/\F364 ((true,l,()),((ly,()),()))=some (((),i,e,()),((ly',()),o,())) /\
   (e=0->RelS m1 ly'/\o.length=l.length)/\(e≠0->ly'=ly/\o=[]/\i<=((l.length:Nat):Int)):=by
  by_cases h0:l.length=0
  ·have c0:decide (((l.length:Nat):Int)=0)=true:=zW (by omega)
   exact ⟨0,2,m,ly,[],by simp only [F45,zu,zJ,c0,zG],by simp only [F364,zu,zJ,c0,zG],nofun,λ_=>⟨rfl,rfl,by omega⟩⟩
  ·have c0:decide (((l.length:Nat):Int)=0)=false:=zz (by omega)
   by_cases h1:12<l.length
   ·have c1:decide ((12:Int)<((l.length:Nat):Int))=true:=zW (by omega)
    exact ⟨0,6,m,ly,[],by simp only [F45,zu,zJ,c0,c1,zG],by simp only [F364,zu,zJ,c0,c1,zG],nofun,λ_=>⟨rfl,rfl,by omega⟩⟩
   ·have c1:decide ((12:Int)<((l.length:Nat):Int))=false:=zz (by omega)
    obtain ⟨r,s,e1,e2,hr⟩:=L45_L24 R l hs (by omega)
    rcases hr with ⟨m',ly',o,rfl,rfl,R',ho⟩ | ⟨i,e,m',he,hi,rfl,rfl⟩
    ·exact ⟨0,0,m',ly',o,by simp only [F45,zu,zJ,c0,c1,e1,zE],by simp only [F364,zu,zJ,zG,c0,c1,e2,zE],λ_=>⟨R',ho⟩,λh=>absurd rfl h⟩
    ·exact ⟨i,e,m',ly,[],by simp only [F45,zu,zJ,c0,c1,e1,zE],by simp only [F364,zu,zJ,zG,c0,c1,e2,zE],λh=>absurd h he,λ_=>⟨rfl,rfl,by omega⟩⟩
 obtain ⟨i,e,m1,ly',o,e27,e24,hg,hb⟩:=key
 by_cases he:e=0
 ·subst he
  obtain ⟨R',ho⟩:=hg rfl
  exact ⟨i,0,m1,ly',o,by simp only [F38,zu,zJ,zG,zE,e27,zU],e24,R',λh=>absurd rfl h,λ_=>ho⟩
 ·obtain ⟨rfl,rfl,hi⟩:=hb he
  exact ⟨i,e,m,ly',[],by simp only [F38,zu,zJ,zG,zE,e27,zz he],e24,R,λ_=>⟨rfl,rfl,rfl,hi⟩,λh=>absurd h he⟩
theorem loop_one {σ τ:Type} {f:σ->Option (σ⊕τ)} {p:σ} {r:τ} (h:f p=some (.inr r)):zP f p=some r:=by
 unfold zP
 rw [show yn=(yn-1)+1 by unfold yn;omega]
 simp only [iter,h]
theorem loop_two {σ τ:Type} {f:σ->Option (σ⊕τ)} {p q:σ} {r:τ} (h1:f p=some (.inl q)) (h2:f q=some (.inr r)):zP f p=some r:=by
 unfold zP
 rw [show yn=(yn-2)+1+1 by unfold yn;omega]
 simp only [iter,h1,h2]
theorem F62_keys {m:Mp} (G:FineM m) (d:Dd) (hu:d.2.1.length<=1100000) (ht:d.2.2.2.1.length<=1100000) {n:Int} {m':Mp}
  (h:F62 ((true,d,()),(((),()),m,()))=some ((n,0,()),(((),()),m',()))) (h8:d.1≠8) (h9:d.1≠9) :
  (∃ x,m'=zZ .str m d.2.1 x)/\((zF .str m d.2.1).isSome=decide (d.1≠1)):=by
 have keep:∀ (r:wg×Int×Int×Unit),F62 ((true,d,()),(((),()),m,()))=some ((kept m d.2.1 r).1,(((),()),(kept m d.2.1 r).2,()))->∃ x,m'=zZ .str m d.2.1 x:=λr hr=>by
  rw [h] at hr
  simp only [kept,xQ,Prod.mk.injEq,true_and,and_true] at hr
  obtain ⟨⟨_,h0⟩,hm⟩:=hr
  rw [if_pos h0.symm] at hm
  exact ⟨_,hm⟩
 obtain ⟨e0,hc,hC⟩:=F73_ex d (Nat.le_trans hu (by decide))
 by_cases he0:e0=0
 ·subst he0
  obtain ⟨C,hE⟩:=hC rfl
  by_cases h1:d.1=1
  ·have e:=F62_open m d hc h1
   rw [h] at e
   simp only [xQ,Prod.mk.injEq,true_and,and_true] at e
   obtain ⟨⟨_,e1⟩,e2⟩:=e
   unfold come at e1 e2
   have hn:(tc d.2.1).1=d.2.1:=rfl
   cases hg:(zF .str m (tc d.2.1).1).isSome with
   | true=>rw [hg] at e1;simp at e1
   | false =>
    rw [hg] at e1 e2
    by_cases hl:m.length=16
    ·simp [hl] at e1
    ·simp only [Bool.false_eq_true,if_false,if_neg hl] at e2
     rw [hn] at e2 hg
     exact ⟨⟨_,e2⟩,by rw [hg,h1];simp⟩
  ·have h1':decide (d.1≠1)=true:=zW h1
   cases hm:zF .str m d.2.1 with
   | none =>
    have e:=F62_gone m d hc h1 h8 hm
    rw [h] at e
    simp at e
   | some u =>
    refine ⟨?_,by rw [h1'];rfl⟩
    obtain ⟨Fu,hk⟩:=G.fine d.2.1 u hm
    have Gu:Good u:=Fu.good
    by_cases h23:d.1=2\/d.1=3
    ·obtain ⟨lo,e1,e2,e3,e4,e5,e6⟩:=F76_eq u d (Nat.le_trans Gu.few (by decide)) Gu.rise
     exact keep _ (F62_shape m d u lo hc h23 hm e1)
    ·rw [not_or] at h23
     by_cases h7:d.1=7
     ·obtain ⟨R,e1,e2⟩:=F77_ex Fu d ht
      exact keep _ (sG m d u R hc h7 hm e1)
     ·rcases F78_eq u d (Nat.le_trans Gu.few (by decide)) Gu.len Gu.rise with ⟨_,e1⟩ | ⟨lo,l1,l2,e1⟩
      ·exact keep _ (F62_box m d u _ hc h1 h23.1 h23.2 h7 h8 h9 hm e1)
      ·exact keep _ (F62_box m d u _ hc h1 h23.1 h23.2 h7 h8 h9 hm e1)
 ·have e:=F62_bad m d e0 hc he0
  rw [h] at e
  simp only [xQ,Prod.mk.injEq] at e
  exact absurd e.1.2.1.symm he0
structure One (m:Mp) (ly:List Ur) (d:Dd) (n e:Int) (m':Mp) (ly':List Ur):Prop where
 did:∃ i,F38 ((true,[d],()),(((),()),m,()))=some (((),i,e,()),(((),()),m',if e=0 then [n] else [],()))
 ref:∃ i,F364 ((true,[d],()),((ly,()),()))=some (((),i,e,()),((ly',()),if e=0 then [n] else [],()))
 rel:RelS m' ly'
 bad:e≠0->m'=m/\ly'=ly
 keys:e=0->d.1≠8->d.1≠9->(∃ x,m'=zZ .str m d.2.1 x)/\((zF .str m d.2.1).isSome=decide (d.1≠1))
theorem do_one {m:Mp} {ly:List Ur} (R:RelS m ly) (d:Dd) (hs:Small3 d):∃ n e m' ly',One m ly d n e m' ly':=by
 obtain ⟨i,e,m',ly',o,D⟩:=do_both R [d] (λx hx=>by rw [List.mem_singleton.1 hx];exact hs)
 obtain ⟨n1,e1,m1,n1',l1',h1,_,_,_,_⟩:=(deed_both R d hs).ex
 have hF:F45 ((true,[d],()),(((),()),m,()))=some (((),0,e1,()),(((),()),m1,if e1=0 then [n1] else [],())):=by
  obtain ⟨dd,du,db,dt,uid,how,fl,ds,de,by',⟨⟩⟩:=d
  by_cases he:e1=0
  ·subst he
   have b1:wb ((true,(),[(dd,du,db,dt,uid,how,fl,ds,de,by',())],(1:Int),(0:Int),()),(((),()),m,([]:List Int),()))=some (.inl ((true,(),[(dd,du,db,dt,uid,how,fl,ds,de,by',())],(1:Int),(1:Int),()),(((),()),m1,[n1],()))):=by
    have w1:zX ((0:Int)+1)=1:=by rw [zO (by omega) (by omega)];rfl
    simp only [wb,Int.zero_lt_one,zU,zG,Int.le_refl,va,show ((1:Nat):Int)=1 from rfl,z8,zE,Int.toNat_zero,List.getD_cons_zero,h1,zu,zJ,w1,List.nil_append,List.length_nil,
     show zC (0+1) 8=true by rfl]
   have b2:wb ((true,(),[(dd,du,db,dt,uid,how,fl,ds,de,by',())],(1:Int),(1:Int),()),(((),()),m1,[n1],()))=some (.inr (.inl ((true,(),()),(((),()),m1,[n1],())))):=by
    simp only [wb,Int.lt_irrefl,yp,zJ]
   have e72:L45_0 ((true,(),[(dd,du,db,dt,uid,how,fl,ds,de,by',())],(1:Int),(0:Int),()),(((),()),m,([]:List Int),()))=some (.inl ((true,(),()),(((),()),m1,[n1],()))):=loop_two b1 b2
   simp only [F45,zu,zJ,va,show ((1:Nat):Int)=1 from rfl,show decide ((1:Int)=0)=false by decide,show decide ((12:Int)<1)=false by decide,e72,zE,if_true]
  ·have b1:wb ((true,(),[(dd,du,db,dt,uid,how,fl,ds,de,by',())],(1:Int),(0:Int),()),(((),()),m,([]:List Int),()))=some (.inr (.inr ((true,(),(0:Int),e1,()),(((),()),m1,[],())))):=by
    simp only [wb,Int.zero_lt_one,zU,zG,Int.le_refl,va,show ((1:Nat):Int)=1 from rfl,z8,zE,Int.toNat_zero,List.getD_cons_zero,h1,zz he,yq]
   have e72:L45_0 ((true,(),[(dd,du,db,dt,uid,how,fl,ds,de,by',())],(1:Int),(0:Int),()),(((),()),m,([]:List Int),()))=some (.inr ((true,(),(0:Int),e1,()),(((),()),m1,[],()))):=loop_one b1
   simp only [F45,zu,zJ,va,show ((1:Nat):Int)=1 from rfl,show decide ((1:Int)=0)=false by decide,show decide ((12:Int)<1)=false by decide,e72,zE,if_neg he]
 have hD:F38 ((true,[d],()),(((),()),m,()))=some (((),0,e1,()),(((),()),(if e1=0 then m1 else m),(if e1=0 then [n1] else []),())):=by
  by_cases he:e1=0
  ·subst he
   simp only [F38,zu,zJ,zG,hF,zE,zU,if_true]
  ·simp only [F38,zu,zJ,zG,hF,zE,zz he,if_neg he]
 have hd:=D.did
 rw [hD] at hd
 simp only [xQ,Prod.mk.injEq,true_and,and_true] at hd
 obtain ⟨⟨hi,he⟩,hm,ho⟩:=hd
 subst he
 refine ⟨n1,e1,m',ly',⟨0,by rw [hD,<- hm]⟩,⟨i,by rw [D.ref,<- ho]⟩,D.rel,λh=>⟨(D.bad h).1,(D.bad h).2.1⟩,λh0 h8 h9=>?_⟩
 subst h0
 rw [if_pos rfl] at hm
 rw [<- hm]
 exact F62_keys R.fine d (Nat.le_trans hs.1 (by decide)) (Nat.le_trans hs.2.2 (by decide)) h1 h8 h9
def z7:Nat->Nat->List UInt8
 | 0,_=>[]
 | n+1,v=>UInt8.ofNat (v/256^n % 256)::z7 n v
theorem zp:∀ (n v:Nat),(z7 n v).length=n
 | 0,_=>rfl
 | n+1,v=>by rw [z7,List.length_cons,zp n v]
theorem u8of_nat (x:Nat):uk (x:Int)=UInt8.ofNat (x % 256):=by
 unfold uk
 congr 1
theorem L48_iter (v:Nat):∀ (j k:Nat) (b:List UInt8),j<k->j<=4->b.length+j<=1000000->iter B48_0 k (((),(v:Int),(j:Int)-1,()),(b,()))=some (((),()),(b++z7 j v,()))
 | _,0,_,h,_,_=>absurd h (Nat.not_lt_zero _)
 | 0,k+1,b,_,_,_=>by
  rw [iter]
  have:decide ((0:Int)<=((0:Nat):Int)-1)=false:=rfl
  simp only [B48_0,this,zJ,z7,List.append_nil]
 | j+1,k+1,b,h,h4,hb=>by
  rw [iter]
  have e0:((j+1:Nat):Int)-1=(j:Int):=by omega
  have d0:decide ((0:Int)<=(j:Int))=true:=zW (by omega)
  have w8:zX (8*(j:Int))=((8*j:Nat):Int):=by rw [zO (by omega) (by omega)];omega
  have d1:decide ((0:Int)<=((8*j:Nat):Int))=true:=zW (by omega)
  have w1:zX ((j:Int)-1)=(j:Int)-1:=zO (by omega) (by omega)
  have hm:min (8*j) (IntKind.bits .i64)=8*j:=by
   have:IntKind.bits .i64=64:=rfl
   rw [this];omega
  have hp:(2:Int)^(8*j)=((256^j:Nat):Int):=by
   rw [Int.pow_mul]
   rfl
  have hd:Int.fdiv (v:Int) ((256^j:Nat):Int)=((v/256^j:Nat):Int):=by
   rw [Int.fdiv_eq_ediv_of_nonneg _ (Int.natCast_nonneg _)]
   rfl
  have b1:∀ c:UInt8,zC (b.length+[c].length) 1=true:=λc=>zT (by simp only [va];omega)
  have ih:=L48_iter v j k (b++[UInt8.ofNat (v/256^j % 256)]) (by omega) (by omega) (by rw [yU,va];omega)
  simp only [e0,B48_0,d0,zG,w8,d1,zr,hm,hp,hd,u8of_nat,b1,zE,w1,ih,lAs,List.singleton_append,z7]
theorem sH (v n:Nat) (b:List UInt8) (hn:n<=4) (hb:b.length<=900000):F48 (((),(v:Int),(n:Int),()),(b,()))=some ((),(b++z7 n v,())):=by
 have hF:=zK
 have w1:zX ((n:Int)-1)=(n:Int)-1:=zO (by omega) (by omega)
 have hL:L48_0 (((),(v:Int),(n:Int)-1,()),(b,()))=some (((),()),(b++z7 n v,())):=L48_iter v n yn b (by omega) hn (by omega)
 simp only [F48,w1,hL,zE]
theorem F49_eq (s b:List UInt8) (hs:s.length<=1000) (hb:b.length<=900000):F49 (((),s,()),(b,()))=some ((),(b++(z7 1 s.length++s),())):=by
 have e:=sH s.length 1 b (by omega) hb
 rw [show ((1:Nat):Int)=1 from rfl] at e
 have b1:zC ((b++z7 1 s.length).length+s.length) 1=true:=zT (by rw [yU,zp];omega)
 simp only [F49,e,zE,b1,zG,lAs]
theorem F50_eq (s b:List UInt8) (hs:s.length<=1000) (hb:b.length<=900000):F50 (((),s,()),(b,()))=some ((),(b++(z7 2 s.length++s),())):=by
 have e:=sH s.length 2 b (by omega) hb
 rw [show ((2:Nat):Int)=2 from rfl] at e
 have b1:zC ((b++z7 2 s.length).length+s.length) 1=true:=zT (by rw [yU,zp];omega)
 simp only [F50,e,zE,b1,zG,lAs]
def putL (l:yO):List UInt8:=z7 4 l.1.toNat++(z7 1 l.2.1.toNat++(z7 2 l.2.2.1.length++l.2.2.1))
def putB (b:Bx):List UInt8:=z7 1 b.1.length++(b.1++(z7 4 b.2.1.toNat++(z7 4 b.2.2.1.toNat++(z7 1 b.2.2.2.1.length++b.2.2.2.1.flatMap putL))))
def putU (u:wg):List UInt8:=z7 1 u.1.length++(u.1++(z7 4 u.2.1.toNat++(z7 1 u.2.2.1.length++u.2.2.1.flatMap putB)))
structure PutL (l:yO):Prop where
 uid:0<=l.1/\l.1<4294967296
 len:l.2.2.1.length<=600
theorem putL_len {l:yO} (h:PutL l):(putL l).length<=607:=by
 have:=h.len
 unfold putL
 simp only [yU,zp]
 omega
theorem flat_len {α:Type} (g:α->List UInt8) (B:Nat):∀ (ls:List α),(∀ l∈ls,(g l).length<=B)->(ls.flatMap g).length<=B*ls.length
 | [],_=>by simp
 | a::t,h=>by
  have h1:=h a (List.mem_cons_self ..)
  have h2:=flat_len g B t λl hl=>h l (List.mem_cons_of_mem _ hl)
  rw [List.flatMap_cons,yU,List.length_cons,Nat.mul_add,Nat.mul_one]
  omega
structure PutB (b:Bx):Prop where
 name:b.1.length<=24
 valid:0<=b.2.1/\b.2.1<4294967296
 next:0<=b.2.2.1/\b.2.2.1<4294967296
 few:b.2.2.2.1.length<=32
 each:∀ l∈b.2.2.2.1,PutL l
theorem putB_len {b:Bx} (h:PutB b):(putB b).length<=20000:=by
 have h1:=h.name
 have h2:=h.few
 have h3:=flat_len putL 607 b.2.2.2.1 λl hl=>putL_len (h.each l hl)
 unfold putB
 simp only [yU,zp]
 omega
theorem Right.put {b:Bx} (R:Right (yI b)) (hn:zl b.1=true):PutB b where
 name:=w7 hn
 valid:=by have:=R.valid;unfold yI at this;simp only at this;omega
 next:=by have:=R.next;unfold yI at this;simp only at this;omega
 few:=R.few
 each:=λl hl=>by
  obtain ⟨h1,h2,h3,h4⟩:=R.each l hl
  have:=R.next
  exact ⟨by omega,h4⟩
theorem F47_fine {u:wg} (G:Fine u):F47 ((u,()),())=some (0,()):=by
 rw [<- F347_F44 u (Nat.le_trans (user_le G.user) (by decide)) λb hb=>Nat.le_trans (w7 (G.names b hb)) (by decide)]
 exact F347_eq G
theorem uB {α τ:Type} (g:α->List UInt8) (fin:List UInt8->τ):∀ (l:List α) (b:List UInt8),zd (λa b=>(.inl (b++g a):List UInt8⊕τ)) fin b l=fin (b++l.flatMap g)
 | [],b=>by simp [zd]
 | a::t,b=>by
  simp only [zd]
  rw [uB g fin t]
  simp
theorem L40_1_eq (bs:List Bx) (n0 i0:Int) (ls:List yO) (b:List UInt8) (hl:ls.length<=32) (hp:∀ l∈ls,PutL l) (hb:b.length<=400000) :
  L40_1 (((),bs,n0,i0,ls,((ls.length:Nat):Int),(0:Int),()),(b,()))=some (((),bs,n0,i0,()),(b++ls.flatMap putL,())):=by
 have hF:=zK
 unfold L40_1
 refine (zs (f:=B40_1) (λ(o:List UInt8) i=>(((),bs,n0,i0,ls,((ls.length:Nat):Int),(i:Int),()),(o,()))) ls (λa o=>.inl (o++putL a)) (λo=>(((),bs,n0,i0,()),(o,()))) (λo i=>o.length<=400000+607*i)
  (λo i a hI hi ha=>?_) (λo _=>?_) (by omega) (b:=b) (by omega)).trans ?_
 ·have hm:a∈ls:=by
   have:=ha u7
   rw [xk,List.getElem?_eq_getElem hi] at this
   rw [<- this]
   exact List.getElem_mem hi
  have hpa:=hp a hm
  have hlen:=putL_len hpa
  refine .inl ⟨_,rfl,by rw [yU];omega,?_⟩
  obtain ⟨uid,f,p,⟨⟩⟩:=a
  have h1:=hpa.uid
  have h2:=hpa.len
  simp only at h1 h2
  have d0:decide ((i:Int)<((ls.length:Nat):Int))=true:=zW (by omega)
  have d1:decide ((0:Int)<=(i:Int))=true:=zW (by omega)
  have w1:zX ((i:Int)+1)=((i+1:Nat):Int):=by rw [zO (by omega) (by omega)];rfl
  have e1:=sH uid.toNat 4 o (by omega) (by omega)
  rw [show ((uid.toNat:Nat):Int)=uid by omega,show ((4:Nat):Int)=4 from rfl] at e1
  have e2:=sH f.toNat 1 (o++z7 4 uid.toNat) (by omega) (by rw [yU,zp];omega)
  rw [show ((1:Nat):Int)=1 from rfl] at e2
  have e3:=F50_eq p ((o++z7 4 uid.toNat)++z7 1 f.toNat) (by omega) (by rw [yU,yU,zp,zp];omega)
  have ha':=ha (0,0,[],())
  simp only [lAs] at e2 e3
  simp only [B40_1,d0,d1,z8,zG,zr,ha',zE,e1,e2,e3,zU,zR,w1,putL]
 ·simp only [B40_1,Int.lt_irrefl,yp,zJ]
 ·rw [uB]
theorem L40_0_eq (bs:List Bx) (b:List UInt8) (hl:bs.length<=6) (hp:∀ x∈bs,PutB x) (hb:b.length<=1000) :
  L40_0 (((),bs,((bs.length:Nat):Int),(0:Int),()),(b,()))=some (((),()),(b++bs.flatMap putB,())):=by
 have hF:=zK
 unfold L40_0
 refine (zs (f:=B40_0) (λ(o:List UInt8) i=>(((),bs,((bs.length:Nat):Int),(i:Int),()),(o,()))) bs (λa o=>.inl (o++putB a)) (λo=>(((),()),(o,()))) (λo i=>o.length<=1000+20000*i)
  (λo i a hI hi ha=>?_) (λo _=>?_) (by omega) (b:=b) (by omega)).trans ?_
 ·have hm:a∈bs:=by
   have:=ha yH
   rw [wU hi] at this
   rw [<- this]
   exact List.getElem_mem hi
  have hpa:=hp a hm
  have hlen:=putB_len hpa
  refine .inl ⟨_,rfl,by rw [yU];omega,?_⟩
  obtain ⟨bn,bv,bx,bl,⟨⟩⟩:=a
  have h1:=hpa.name
  have h2:=hpa.valid
  have h3:=hpa.next
  have h4:=hpa.few
  have h5:=hpa.each
  simp only at h1 h2 h3 h4 h5
  have d0:decide ((i:Int)<((bs.length:Nat):Int))=true:=zW (by omega)
  have d1:decide ((0:Int)<=(i:Int))=true:=zW (by omega)
  have w1:zX ((i:Int)+1)=((i+1:Nat):Int):=by rw [zO (by omega) (by omega)];rfl
  have e1:=F49_eq bn o (by omega) (by omega)
  have e2:=sH bv.toNat 4 (o++(z7 1 bn.length++bn)) (by omega) (by simp only [yU,zp];omega)
  rw [show ((bv.toNat:Nat):Int)=bv by omega,show ((4:Nat):Int)=4 from rfl] at e2
  have e3:=sH bx.toNat 4 ((o++(z7 1 bn.length++bn))++z7 4 bv.toNat) (by omega) (by simp only [yU,zp];omega)
  rw [show ((bx.toNat:Nat):Int)=bx by omega,show ((4:Nat):Int)=4 from rfl] at e3
  have e4:=sH bl.length 1 (((o++(z7 1 bn.length++bn))++z7 4 bv.toNat)++z7 4 bx.toNat) (by omega) (by simp only [yU,zp];omega)
  rw [show ((1:Nat):Int)=1 from rfl] at e4
  have e5:=L40_1_eq bs ((bs.length:Nat):Int) (i:Int) bl ((((o++(z7 1 bn.length++bn))++z7 4 bv.toNat)++z7 4 bx.toNat)++z7 1 bl.length) h4 h5 (by simp only [yU,zp];omega)
  have ha':=ha yH
  simp only [lAs] at e2 e3 e4 e5
  simp only [B40_0,d0,d1,z8,zG,zr,ha',zE,e1,e2,e3,e4,e5,zU,zR,w1,putB]
 ·simp only [B40_0,Int.lt_irrefl,yp,zJ]
 ·rw [uB]
theorem F40_eq {u:wg} (G:Fine u):F40 ((u,()),())=some (((),0,()),(putU u,())):=by
 have e44:=F47_fine G
 obtain ⟨un,uv,ls,⟨⟩⟩:=u
 have h1:=user_le G.user
 have h2:=G.good.valid
 have h3:=G.good.few
 have h4:∀ b∈ls,PutB b:=λb hb=>(G.good.each b hb).put (G.names b hb)
 simp only at h1 h2 h3
 have e1:=F49_eq un [] (by omega) (by simp)
 rw [List.nil_append] at e1
 have e2:=sH uv.toNat 4 (z7 1 un.length++un) (by omega) (by simp only [yU,zp];omega)
 rw [show ((uv.toNat:Nat):Int)=uv by omega,show ((4:Nat):Int)=4 from rfl] at e2
 have e3:=sH ls.length 1 ((z7 1 un.length++un)++z7 4 uv.toNat) (by omega) (by simp only [yU,zp];omega)
 rw [show ((1:Nat):Int)=1 from rfl] at e3
 have e4:=L40_0_eq ls (((z7 1 un.length++un)++z7 4 uv.toNat)++z7 1 ls.length) h3 h4 (by simp only [yU,zp];omega)
 simp only [lAs] at e2 e3 e4
 simp only [F40,e44,zE,zU,zu,zJ,zG,e1,e2,e3,e4,zR,putU]
theorem tmod_nat (v:Nat):Int.tmod (v:Int) 256=((v % 256:Nat):Int):=by
 rw [Int.tmod_eq_emod_of_nonneg (Int.natCast_nonneg _)];rfl
theorem tdiv_nat (v:Nat):Int.tdiv (v:Int) 256=((v/256:Nat):Int):=by
 rw [Int.tdiv_eq_ediv_of_nonneg (Int.natCast_nonneg _)];rfl
theorem L348_iter (v n:Nat) (b:List UInt8) (hv:v<=4294967296) (hn:n<=4):∀ (j i k:Nat),i+j=n->j<k ->
  iter B348_0 k (((),((v/256^i:Nat):Int),(n:Int),(),(i:Int),()),(b,z7 i v,()))=some (((),(),()),(b,z7 n v,()))
 | j,i,0,_,h=>absurd h (Nat.not_lt_zero _)
 | 0,i,k+1,hi,_=>by
  have hin:i=n:=by omega
  subst hin
  rw [iter]
  simp only [B348_0,Int.lt_irrefl,yp,zJ]
 | j+1,i,k+1,hi,hk=>by
  rw [iter]
  have d0:decide ((i:Int)<(n:Int))=true:=zW (by omega)
  have hle:v/256^i<=v:=Nat.div_le_self _ _
  have w1:zX ((i:Int)+1)=((i+1:Nat):Int):=by rw [zO (by omega) (by omega)];rfl
  have hdd:v/256^i/256=v/256^(i+1):=by rw [Nat.div_div_eq_div_mul,Nat.pow_succ]
  have hle2:v/256^(i+1)<=v:=Nat.div_le_self _ _
  have w2:zX ((v/256^(i+1):Nat):Int)=((v/256^(i+1):Nat):Int):=by
   generalize v/256^(i+1)=q at hle2
   exact zO (by omega) (by omega)
  have b1:∀ c:UInt8,zC ([c].length+(z7 i v).length) 1=true:=λc=>zT (by rw [zp,va];omega)
  have u1:uk (((v/256^i % 256:Nat)):Int)=UInt8.ofNat (v/256^i % 256):=by rw [u8of_nat,Nat.mod_mod]
  have ih:=L348_iter v n b hv hn j (i+1) k (by omega) (by omega)
  simp only [B348_0,d0,zG,tmod_nat,tdiv_nat,u1,b1,hdd,w2,w1,List.singleton_append]
  exact ih
theorem F348_eq (v n:Nat) (b:List UInt8) (hv:v<=4294967296) (hn:n<=4) (hb:b.length<=900000):F348 (((),(v:Int),(n:Int),()),(b,()))=some ((),(b++z7 n v,())):=by
 have hF:=zK
 have hL:L348_0 (((),(v:Int),(n:Int),(),(0:Int),()),(b,([]:List UInt8),()))=some (((),(),()),(b,z7 n v,())):=by
  have:=L348_iter v n b hv hn n 0 yn (by omega) (by omega)
  rw [Nat.pow_zero,Nat.div_one] at this
  exact this
 have b1:zC (b.length+(z7 n v).length) 1=true:=zT (by rw [zp];omega)
 simp only [F348,hL,zE,b1,zG]
theorem F349_eq (s b:List UInt8) (hs:s.length<=1000) (hb:b.length<=800000):F349 (((),s,()),(b,()))=some ((),(b++(z7 1 s.length++s),())):=by
 have e:=F348_eq s.length 1 b (by omega) (by omega) (by omega)
 rw [show ((1:Nat):Int)=1 from rfl] at e
 have b1:zC ((b++z7 1 s.length).length+s.length) 1=true:=zT (by rw [yU,zp];omega)
 simp only [F349,e,zE,b1,zG,lAs]
theorem putn_u8 (c:UInt8):z7 1 c.toNat=[c]:=by
 simp only [z7,Nat.pow_zero,Nat.div_one]
 have:=c.toNat_lt
 rw [Nat.mod_eq_of_lt (by omega)]
 simp
theorem putn_one (n:Nat):[uk (n:Int)]=z7 1 n:=by
 simp only [z7,Nat.pow_zero,Nat.div_one,u8of_nat]
theorem L334_1_eq (un:Tx) (uv:Int) (bs:List Bx) (i0:Int) (bn:Tx) (bv bx:Int) (ls:List yO) (b:List UInt8) (hl:ls.length<=32) (hp:∀ l∈ls,PutL l) (hb:b.length<=400000) :
  L334_1 (((),(),i0,(),(0:Int),()),((un,uv,bs,()),b,(bn,bv,bx,ls,()),()))=some (((),(),i0,()),((un,uv,bs,()),b++ls.flatMap putL,())):=by
 have hF:=zK
 unfold L334_1
 refine (zs (f:=B334_1) (λ(o:List UInt8) i=>(((),(),i0,(),(i:Int),()),((un,uv,bs,()),o,(bn,bv,bx,ls,()),()))) ls (λa o=>.inl (o++putL a)) (λo=>(((),(),i0,()),((un,uv,bs,()),o,()))) (λo i=>o.length<=400000+607*i)
  (λo i a hI hi ha=>?_) (λo _=>?_) (by omega) (b:=b) (by omega)).trans ?_
 ·have hm:a∈ls:=by
   have:=ha u7
   rw [xk,List.getElem?_eq_getElem hi] at this
   rw [<- this]
   exact List.getElem_mem hi
  have hpa:=hp a hm
  have hlen:=putL_len hpa
  refine .inl ⟨_,rfl,by rw [yU];omega,?_⟩
  obtain ⟨uid,f,p,⟨⟩⟩:=a
  have h1:=hpa.uid
  have h2:=hpa.len
  simp only at h1 h2
  have d0:decide ((i:Int)<((ls.length:Nat):Int))=true:=zW (by omega)
  have d1:decide ((0:Int)<=(i:Int))=true:=zW (by omega)
  have w1:zX ((i:Int)+1)=((i+1:Nat):Int):=by rw [zO (by omega) (by omega)];rfl
  have e1:=F348_eq uid.toNat 4 o (by omega) (by omega) (by omega)
  rw [show ((uid.toNat:Nat):Int)=uid by omega,show ((4:Nat):Int)=4 from rfl] at e1
  have b1:zC ((o++z7 4 uid.toNat).length+[f].length) 1=true:=zT (by rw [yU,zp,va];omega)
  have e3:=F348_eq p.length 2 ((o++z7 4 uid.toNat)++[f]) (by omega) (by omega) (by simp only [yU,zp,va];omega)
  rw [show ((2:Nat):Int)=2 from rfl] at e3
  have b2:zC ((((o++z7 4 uid.toNat)++[f])++z7 2 p.length).length+p.length) 1=true:=zT (by simp only [yU,zp,va];omega)
  have ha':=ha (0,0,[],())
  have eL:putL (uid,f,p,())=z7 4 uid.toNat++([f]++(z7 2 p.length++p)):=by simp only [putL,putn_u8]
  simp only [lAs] at e3 b2
  simp only [B334_1,d0,d1,z8,zG,zr,ha',zE,e1,b1,zU,zR,lAs,e3,b2,w1,eL]
 ·simp only [B334_1,Int.lt_irrefl,yp,zJ]
 ·rw [uB]
theorem L334_0_eq (un:Tx) (uv:Int) (bs:List Bx) (b:List UInt8) (hl:bs.length<=6) (hp:∀ x∈bs,PutB x) (hb:b.length<=1000) :
  L334_0 (((),(),(0:Int),()),((un,uv,bs,()),b,()))=some (((),()),(b++bs.flatMap putB,())):=by
 have hF:=zK
 unfold L334_0
 refine (zs (f:=B334_0) (λ(o:List UInt8) i=>(((),(),(i:Int),()),((un,uv,bs,()),o,()))) bs (λa o=>.inl (o++putB a)) (λo=>(((),()),(o,()))) (λo i=>o.length<=1000+20000*i)
  (λo i a hI hi ha=>?_) (λo _=>?_) (by omega) (b:=b) (by omega)).trans ?_
 ·have hm:a∈bs:=by
   have:=ha yH
   rw [wU hi] at this
   rw [<- this]
   exact List.getElem_mem hi
  have hpa:=hp a hm
  have hlen:=putB_len hpa
  refine .inl ⟨_,rfl,by rw [yU];omega,?_⟩
  obtain ⟨bn,bv,bx,bl,⟨⟩⟩:=a
  have h1:=hpa.name
  have h2:=hpa.valid
  have h3:=hpa.next
  have h4:=hpa.few
  have h5:=hpa.each
  simp only at h1 h2 h3 h4 h5
  have d0:decide ((i:Int)<((bs.length:Nat):Int))=true:=zW (by omega)
  have d1:decide ((0:Int)<=(i:Int))=true:=zW (by omega)
  have w1:zX ((i:Int)+1)=((i+1:Nat):Int):=by rw [zO (by omega) (by omega)];rfl
  have e1:=F349_eq bn o (by omega) (by omega)
  have e2:=F348_eq bv.toNat 4 (o++(z7 1 bn.length++bn)) (by omega) (by omega) (by simp only [yU,zp];omega)
  rw [show ((bv.toNat:Nat):Int)=bv by omega,show ((4:Nat):Int)=4 from rfl] at e2
  have e3:=F348_eq bx.toNat 4 ((o++(z7 1 bn.length++bn))++z7 4 bv.toNat) (by omega) (by omega) (by simp only [yU,zp];omega)
  rw [show ((bx.toNat:Nat):Int)=bx by omega,show ((4:Nat):Int)=4 from rfl] at e3
  have b4:zC ((((o++(z7 1 bn.length++bn))++z7 4 bv.toNat)++z7 4 bx.toNat).length+(z7 1 bl.length).length) 1=true:=zT (by simp only [yU,zp];omega)
  have e5:=L334_1_eq un uv bs (i:Int) bn bv bx bl ((((o++(z7 1 bn.length++bn))++z7 4 bv.toNat)++z7 4 bx.toNat)++z7 1 bl.length) h4 h5 (by simp only [yU,zp];omega)
  have ha':=ha yH
  simp only [lAs] at e2 e3 b4 e5
  simp only [B334_0,d0,d1,z8,zG,zr,ha',zE,e1,e2,e3,putn_one,lAs,b4,e5,zU,w1,putB]
 ·simp only [B334_0,Int.lt_irrefl,yp,zJ]
 ·rw [uB]
theorem F334_eq {u:wg} (G:Fine u):F334 ((u,()),())=some (((),0,()),(putU u,())):=by
 have e44:=F347_eq G
 obtain ⟨un,uv,ls,⟨⟩⟩:=u
 have h1:=user_le G.user
 have h2:=G.good.valid
 have h3:=G.good.few
 have h4:∀ b∈ls,PutB b:=λb hb=>(G.good.each b hb).put (G.names b hb)
 simp only at h1 h2 h3
 have e1:=F349_eq un [] (by omega) (by simp)
 rw [List.nil_append] at e1
 have e2:=F348_eq uv.toNat 4 (z7 1 un.length++un) (by omega) (by omega) (by simp only [yU,zp];omega)
 rw [show ((uv.toNat:Nat):Int)=uv by omega,show ((4:Nat):Int)=4 from rfl] at e2
 have b3:zC (((z7 1 un.length++un)++z7 4 uv.toNat).length+(z7 1 ls.length).length) 1=true:=zT (by simp only [yU,zp];omega)
 have e4:=L334_0_eq un uv ls (((z7 1 un.length++un)++z7 4 uv.toNat)++z7 1 ls.length) h3 h4 (by simp only [yU,zp];omega)
 simp only [lAs] at e2 b3 e4
 simp only [F334,e44,zE,zU,zu,zJ,zG,e1,e2,putn_one,lAs,b3,e4,putU]
abbrev Seat:Type:=Option (Mp×Unit)×(Int×Unit)
abbrev Um:Type:=List (Tx×Seat)
abbrev RS:Type:=Ur×(Int×Unit)
abbrev nos:RS:=(([],(0,([],()))),(0,()))
theorem getDs_eq {L:List RS} {i:Nat} (h:i<L.length):L.getD i nos=L[i]:=by
 rw [xk,List.getElem?_eq_getElem h];rfl
theorem F323_walk (L:List RS) (nm:Tx) (hl:L.length<=100000000) :
  ∃ lo:Nat,F323 ((L,nm,()),())=some (((lo:Int),decide (lo<L.length)&&decide ((L.getD lo nos).1.1=nm),()),())/\lo<=L.length /\
   (∀ k,k<lo->(L.getD k nos).1.1<nm)/\(lo<L.length->¬ (L.getD lo nos).1.1<nm):=by
 have hF:=zK
 obtain ⟨r,h1,lo,rfl,h2,h3,h4⟩:=yE (f:=B323_0) (p:=((L,nm,(0:Int),()),()))
  (λp=>∃ i:Nat,i<=L.length/\(∀ k,k<i->(L.getD k nos).1.1<nm)/\p=((L,nm,(i:Int),()),())) (λp=>L.length-p.1.2.2.1.toNat)
  (λr=>∃ lo:Nat,r=((L,nm,(lo:Int),()),())/\lo<=L.length/\(∀ k,k<lo->(L.getD k nos).1.1<nm)/\(lo<L.length->¬ (L.getD lo nos).1.1<nm))
  (λp ⟨i,hi,hk,hp⟩=>by
   subst hp
   rcases Nat.lt_or_ge i L.length with h | h
   ·have d0:decide ((i:Int)<((L.length:Nat):Int))=true:=zW (by omega)
    have d1:decide ((0:Int)<=(i:Int))=true:=zW (by omega)
    have w1:zX ((i:Int)+1)=((i+1:Nat):Int):=by rw [zO (by omega) (by omega)];rfl
    by_cases hb:(L.getD i nos).1.1<nm
    ·left
     refine ⟨((L,nm,((i+1:Nat):Int),()),()),?_,⟨i+1,h,λk hk'=>?_,rfl⟩,by simp only;omega⟩
     ·have hb':Op.bytesLess (L.getD i nos).1.1 nm=true:=by rw [bl_eq];exact zW hb
      simp only [B323_0,d0,d1,z8,Bool.true_or,zG,zr,hb',w1]
     ·rcases Nat.lt_or_ge k i with h' | h'
      ·exact hk k h'
      ·obtain rfl:k=i:=by omega
       exact hb
    ·right
     refine ⟨((L,nm,(i:Int),()),()),?_,i,rfl,hi,hk,λ_=>hb⟩
     have hb':Op.bytesLess (L.getD i nos).1.1 nm=false:=by rw [bl_eq];exact zz hb
     simp only [B323_0,d0,d1,z8,Bool.true_or,zG,zr,hb',Bool.and_false,zJ]
   ·right
    have d0:decide ((i:Int)<((L.length:Nat):Int))=false:=zz (by omega)
    refine ⟨((L,nm,(i:Int),()),()),?_,i,rfl,hi,hk,λh'=>absurd h' (by omega)⟩
    simp only [B323_0,d0,Bool.and_false,Bool.false_and,yq,Bool.or_true,zG,zJ]) ⟨0,Nat.zero_le _,λk hk=>absurd hk (by omega),rfl⟩ (by simp only;omega)
 have hL:L323_0 ((L,nm,(0:Int),()),())=some ((L,nm,(lo:Int),()),()):=h1
 refine ⟨lo,?_,h2,h3,h4⟩
 have d1:decide ((0:Int)<=(lo:Int))=true:=zW (by omega)
 have e:decide ((lo:Int)<((L.length:Nat):Int))=decide (lo<L.length):=by simp
 have o:(decide (lo<L.length)||!decide (lo<L.length))=true:=by cases decide (lo<L.length) <;> rfl
 simp only [F323,hL,zE,d1,Bool.true_and,e,o,zG,zr]
def Rise (L:List RS):Prop:=L.Pairwise λa b=>a.1.1<b.1.1
theorem F323_eq {L:List RS} (hr:Rise L) (nm:Tx) (hl:L.length<=100000000) :
  (∃ A s B,L=A++s::B/\s.1.1=nm/\(∀ x∈A,x.1.1<nm)/\(∀ x∈B,nm<x.1.1)/\F323 ((L,nm,()),())=some ((((A.length:Nat):Int),true,()),())) \/
  (∃ A B,L=A++B/\(∀ x∈A,x.1.1<nm)/\(∀ x∈B,nm<x.1.1)/\F323 ((L,nm,()),())=some ((((A.length:Nat):Int),false,()),())):=by
 obtain ⟨lo,h1,h2,h3,h4⟩:=F323_walk L nm hl
 have hlow:∀ x∈L.take lo,x.1.1<nm:=λx hx=>by
  obtain ⟨i,hi,rfl⟩:=List.mem_take_iff_getElem.1 hx
  have:=h3 i (by omega)
  rwa [getDs_eq (by omega)] at this
 have hlen:(L.take lo).length=lo:=by rw [y4];omega
 by_cases h:lo<L.length
 ·have hd:L.drop lo=L[lo]::L.drop (lo+1):=List.drop_eq_getElem_cons h
  have hsp:L=L.take lo++L[lo]::L.drop (lo+1):=by rw [<- hd,List.take_append_drop]
  have hp:(L.drop lo).Pairwise (λa b=>a.1.1<b.1.1):=List.Pairwise.sublist (List.drop_sublist _ _) hr
  rw [hd] at hp
  obtain ⟨p1,p2⟩:=List.pairwise_cons.1 hp
  have hge:=h4 h
  rw [getDs_eq h] at hge h1
  by_cases he:L[lo].1.1=nm
  ·left
   refine ⟨L.take lo,L[lo],L.drop (lo+1),hsp,he,hlow,λx hx=>by rw [<- he];exact p1 x hx,?_⟩
   rw [h1,hlen,zW h,zW he];rfl
  ·right
   have hlt:=wK hge he
   refine ⟨L.take lo,L.drop lo,(List.take_append_drop _ _).symm,hlow,λx hx=>?_,?_⟩
   ·rw [hd] at hx
    rcases List.mem_cons.1 hx with rfl | hx
    ·exact hlt
    ·exact List.lt_trans hlt (p1 x hx)
   ·rw [h1,hlen,zz he,Bool.and_false]
 ·right
  refine ⟨L.take lo,L.drop lo,(List.take_append_drop _ _).symm,hlow,λx hx=>?_,?_⟩
  ·rw [List.drop_eq_nil_of_le (by omega)] at hx;cases hx
  ·rw [h1,hlen,zz h,Bool.false_and]
theorem F363_eq {L:List RS} (hr:Rise L) (s:RS) (hl:L.length<=100000000) :
  (∃ A t B,L=A++t::B/\t.1.1=s.1.1/\(∀ x∈A,x.1.1<s.1.1)/\(∀ x∈B,s.1.1<x.1.1)/\F363 ((L,(s.1.1,s.1.2.1,s.1.2.2.1,s.2.1,()),()),())=some ((),(A++s::B,()))) \/
  (∃ A B,L=A++B/\(∀ x∈A,x.1.1<s.1.1)/\(∀ x∈B,s.1.1<x.1.1)/\F363 ((L,(s.1.1,s.1.2.1,s.1.2.2.1,s.2.1,()),()),())=some ((),(A++s::B,()))):=by
 obtain ⟨⟨un,uv,ls,⟨⟩⟩,ep,⟨⟩⟩:=s
 have key:∀ (A B C:List RS) (there:Bool),L=A++C->(there=true->∃ t,C=t::B)->(there=false->C=B)->F323 ((L,un,()),())=some ((((A.length:Nat):Int),there,()),()) ->
   F363 ((L,(un,uv,ls,ep,()),()),())=some ((),(A++((un,(uv,(ls,()))),(ep,()))::B,())):=by
  intro A B C there hL h1 h2 h23
  have ht:L.take A.length=A:=by rw [hL];simp
  have hlA:A.length<=L.length:=by rw [hL];simp
  have d0:decide ((0:Int)<=((A.length:Nat):Int))=true:=zW (by omega)
  have d1:decide (((A.length:Nat):Int)<=((L.length:Nat):Int))=true:=zW (by omega)
  have b1:∀ (x y:List RS),x.length+y.length<=200000001->zC (x.length+y.length) 56=true:=λx y h=>zT (by omega)
  have d2:decide (((L.length:Nat):Int)<=((L.length:Nat):Int))=true:=zW (by omega)
  cases there with
  | true =>
   obtain ⟨t,rfl⟩:=h1 rfl
   have hlB:L.length=A.length+1+B.length:=by rw [hL];simp;omega
   have w1:zX (((A.length:Nat):Int)+1)=((A.length+1:Nat):Int):=by rw [zO (by omega) (by omega)];rfl
   have d3:decide ((0:Int)<=((A.length+1:Nat):Int))=true:=zW (by omega)
   have d4:decide (((A.length+1:Nat):Int)<=((L.length:Nat):Int))=true:=zW (by omega)
   have hdr:(L.drop (A.length+1)).take (L.length-(A.length+1))=B:=by
    rw [List.take_of_length_le (by rw [tB];omega),hL,show A.length+1=(A++[t]).length by simp,show A++t::B=(A++[t])++B by simp,List.drop_left]
   simp only [F363,h23,zE,d0,d1,z8,zG,zr,ht,List.nil_append,b1 ([]:List RS) A (by simp<;>omega),b1 A [((un,(uv,(ls,()))),(ep,()))] (by simp<;>omega),w1,d3,d4,d2,hdr,
    b1 (A++[((un,(uv,(ls,()))),(ep,()))]) B (by simp<;>omega)]
   simp
  | false =>
   have hC:=h2 rfl
   subst hC
   have hlB:L.length=A.length+C.length:=by rw [hL];simp
   have hdr:(L.drop A.length).take (L.length-A.length)=C:=by
    rw [List.take_of_length_le (by rw [tB];omega),hL,List.drop_left]
   simp only [F363,h23,zE,d0,d1,z8,zG,zJ,zr,ht,List.nil_append,b1 ([]:List RS) A (by simp<;>omega),b1 A [((un,(uv,(ls,()))),(ep,()))] (by simp<;>omega),d2,hdr,
    b1 (A++[((un,(uv,(ls,()))),(ep,()))]) C (by simp<;>omega)]
   simp
 rcases F323_eq hr un hl with ⟨A,t,B,e1,e2,e3,e4,e5⟩ | ⟨A,B,e1,e3,e4,e5⟩
 ·exact .inl ⟨A,t,B,e1,e2,e3,e4,key A B (t::B) true e1 (λ_=>⟨t,rfl⟩) nofun e5⟩
 ·exact .inr ⟨A,B,e1,e3,e4,key A B B false e1 nofun (λ_=>rfl) e5⟩
theorem tx_ne {a b:Tx} (h:a<b):a≠b:=λe=>by subst e;exact List.lt_irrefl _ h
def look (L:List RS) (k:Tx):Option RS:=L.find? λs=>decide (s.1.1=k)
theorem look_at {A B:List RS} {s:RS} {nm:Tx} (he:s.1.1=nm) (hA:∀ x∈A,x.1.1<nm):look (A++s::B) nm=some s:=by
 unfold look
 rw [List.find?_append,List.find?_eq_none.2 (λx hx=>by simpa using tx_ne (hA x hx))]
 simp [he]
theorem look_no {A B:List RS} {nm:Tx} (hA:∀ x∈A,x.1.1<nm) (hB:∀ x∈B,nm<x.1.1):look (A++B) nm=none:=by
 unfold look
 rw [List.find?_eq_none]
 intro x hx
 rcases List.mem_append.1 hx with hx | hx
 ·simpa using tx_ne (hA x hx)
 ·simpa using λe=>tx_ne (hB x hx) e.symm
theorem look_other {A B C:List RS} {s:RS} {k:Tx} (hk:k≠s.1.1) (hC:∀ t∈C,t.1.1=s.1.1):look (A++s::B) k=look (A++(C++B)) k:=by
 unfold look
 rw [List.find?_append,List.find?_append,List.find?_append]
 have h1:C.find? (λs=>decide (s.1.1=k))=none:=by
  rw [List.find?_eq_none]
  intro x hx
  simpa [hC x hx] using λe=>hk e.symm
 have h2:(s::B).find? (λs=>decide (s.1.1=k))=B.find? (λs=>decide (s.1.1=k)):=by
  rw [List.find?_cons]
  have:decide (s.1.1=k)=false:=zz λe=>hk e.symm
  rw [this]
 rw [h1,h2,Option.none_or]
theorem rise_put {A B:List RS} {s:RS} (h:Rise (A++B)) (hA:∀ x∈A,x.1.1<s.1.1) (hB:∀ x∈B,s.1.1<x.1.1):Rise (A++s::B):=by
 unfold Rise at *
 obtain ⟨h1,h2,h3⟩:=List.pairwise_append.1 h
 refine List.pairwise_append.2 ⟨h1,List.pairwise_cons.2 ⟨λx hx=>hB x hx,h2⟩,λa ha b hb=>?_⟩
 rcases List.mem_cons.1 hb with rfl | hb
 ·exact hA a ha
 ·exact h3 a ha b hb
inductive SeatOK:Option RS->Option Seat->Prop
 | no:SeatOK none none
 | is {s:RS} {m:Mp}:RelS m [s.1]->SeatOK (some s) (some (some (m,()),s.2))
structure RelF (um:Um) (L:List RS):Prop where
 rise:Rise L
 nd:(um.map (·.1)).Nodup
 same:∀ k:Tx,SeatOK (look L k) (zF .str um k)
theorem RelF.nil:RelF [] []:=⟨List.Pairwise.nil,List.nodup_nil,λ_=>.no⟩
theorem RelF.put {um:Um} {L:List RS} (R:RelF um L) {s:RS} {m:Mp} (hs:RelS m [s.1]) (hl:L.length<=100000000) :
  ∃ L',F363 ((L,(s.1.1,s.1.2.1,s.1.2.2.1,s.2.1,()),()),())=some ((),(L',()))/\RelF (zZ .str um s.1.1 (some (m,()),s.2)) L'/\L'.length<=L.length+1:=by
 have KS:KE .str:=KE_str
 have get:∀ k,zF .str (zZ .str um s.1.1 (some (m,()),s.2)) k=cond (yh .str k s.1.1) (some (some (m,()),s.2)) (zF .str um k):=λk=>vz KS R.nd
 have fin:∀ A B C:List RS,L=A++(C++B)->(∀ t∈C,t.1.1=s.1.1)->(∀ x∈A,x.1.1<s.1.1)->(∀ x∈B,s.1.1<x.1.1)->RelF (zZ .str um s.1.1 (some (m,()),s.2)) (A++s::B):=by
  intro A B C hL hC hA hB
  refine ⟨rise_put (List.Pairwise.sublist ?_ R.rise) hA hB,tA KS R.nd,λk=>?_⟩
  ·rw [hL]
   exact List.Sublist.append_left (List.sublist_append_right _ _) _
  ·rw [get]
   by_cases hk:k=s.1.1
   ·subst hk
    rw [KS.eq,zG,look_at rfl hA]
    exact .is hs
   ·rw [KS.ne hk,zJ,look_other hk hC,<- hL]
    exact R.same k
 rcases F363_eq R.rise s hl with ⟨A,t,B,h1,h2,h3,h4,h5⟩ | ⟨A,B,h1,h3,h4,h5⟩
 ·exact ⟨_,h5,fin A B [t] (by simpa using h1) (by simpa using h2) h3 h4,by rw [h1];simp only [yU,List.length_cons];omega⟩
 ·exact ⟨_,h5,fin A B [] (by simpa using h1) (by simp) h3 h4,by rw [h1];simp only [yU,List.length_cons];omega⟩
theorem single {m':Mp} {ly':List Ur} (R:RelS m' ly') {m:Mp} {nm:Tx} {x:Tx×(Int×(List Bx×Unit))} (hm:m'=zZ .str m nm x) (hnd:(m.map (·.1)).Nodup) (h:m=[]\/(m.length=1/\(zF .str m nm).isSome=true)) :
  ∃ u,ly'=[u]/\u.1=nm:=by
 have hl:m'.length=1:=by
  rw [hm,vy KE_str]
  rcases h with rfl | ⟨h1,h2⟩
  ·rfl
  ·rw [h2,zG,h1]
 rw [R.len] at hl
 obtain ⟨u,rfl⟩:=List.length_eq_one_iff.1 hl
 refine ⟨u,rfl,?_⟩
 have hs:=R.same nm
 rw [hm,vz KE_str hnd,KE_str.eq,zG] at hs
 by_cases he:u.1=nm
 ·exact he
 ·simp [he] at hs
structure Oned (um:Um) (jm:List (Int×((List Dd)×(Bool×(Bool×Unit))))) (last:Int) (L:List RS) (d:Dd) (n:Int) (ok:Bool) (um':Um) (L':List RS):Prop where
 did:F26 ((true,d,()),(((),(),last,()),um,jm,()))=some ((n,ok,()),(((),(),last,()),um',jm,()))
 ref:F346 ((L,d,()),())=some ((L',n,ok,()),())
 rel:RelF um' L'
 len:L'.length<=L.length+1
 bad:ok=false->um'=um/\L'=L
theorem getA {A B:List RS} {s:RS} (x:RS):(A++s::B).getD A.length x=s:=by simp
theorem seat_is {o:Option Seat} {s:RS} (h:SeatOK (some s) o):∃ m,o=some (some (m,()),s.2)/\RelS m [s.1]:=by
 cases h with
 | is h=>exact ⟨_,rfl,h⟩
theorem seat_no {o:Option Seat} (h:SeatOK none o):o=none:=by cases h;rfl
theorem as_eq {m:Mp} {u:Ur} (R:RelS m [u]) (ep:Int) {nm:Tx} (hn:u.1=nm):F28 (((some (m,()),ep,()),nm,()),())=some ((),(putU u,())):=by
 have hg:zF .str m nm=some u:=by
  rw [R.same nm]
  simp [hn]
 have G:Fine (usr u):=(R.fine.fine nm u hg).1
 have e1:=F20_eq hg G.good
 have e2:=F40_eq G
 obtain ⟨un,uv,ls,⟨⟩⟩:=u
 unfold usr at e2
 simp only at e1 e2
 simp only [F28,e1,zE,e2]
theorem F27_eq (a b:List UInt8):F27 ((a,b,()),())=some (decide (a=b),()):=rfl
theorem one_both {um:Um} {L:List RS} (R:RelF um L) (jm:List (Int×((List Dd)×(Bool×(Bool×Unit))))) (last:Int) (d:Dd) (hs:Small3 d) (hl:L.length<=99999999) :
  ∃ n ok um' L',Oned um jm last L d n ok um' L':=by
 have hS:=R.same d.2.1
 rcases F323_eq R.rise d.2.1 (by omega) with ⟨A,s,B,hL,hn,hA,hB,h23⟩ | ⟨A,B,hL,hA,hB,h23⟩
 ·
  rw [hL,look_at hn hA] at hS
  obtain ⟨m,hm,Rm⟩:=seat_is hS
  by_cases h1:d.1=1
  ·obtain ⟨n,e,m',ly',O⟩:=do_one RelS.nil d hs
   obtain ⟨i,hd⟩:=O.did
   refine ⟨0,false,um,L,?_,?_,R,by omega,λ_=>⟨rfl,rfl⟩⟩
   ·obtain ⟨dd,du,db,dt,uid,how,fl,ds,de,by',⟨⟩⟩:=d
    simp only at h1 hm
    subst h1
    simp only [F26,zG,zR,hm,Option.isSome_some,Option.getD_some,zE,zU,F37,List.map_cons,List.map_nil,hd,Bool.true_or]
   ·obtain ⟨dd,du,db,dt,uid,how,fl,ds,de,by',⟨⟩⟩:=d
    simp only at h1 h23
    subst h1
    simp only [F346,h23,zE,zU,beq_self_eq_true,zG]
  ·have c1:decide (d.1=1)=false:=zz h1
   have hAl:A.length<L.length:=by rw [hL];simp
   have d0:decide ((0:Int)<=((A.length:Nat):Int))=true:=zW (by omega)
   have d1:decide (((A.length:Nat):Int)<((L.length:Nat):Int))=true:=zW (by omega)
   have hg:L.getD A.length nos=s:=by rw [hL];exact getA _
   have hb:(true == decide (d.1=1))=false:=by rw [c1];rfl
   obtain ⟨⟨un,uv,ls,⟨⟩⟩,ep,⟨⟩⟩:=s
   simp only at hn hm Rm
   by_cases h9:d.1=9
   ·
    by_cases hep:zX (d.2.2.2.2.2.2.2.2.1-1)=ep
    ·obtain ⟨L',g1,g2,g3⟩:=R.put (s:=((un,(uv,(ls,()))),(d.2.2.2.2.2.2.2.2.1,()))) (m:=m) Rm (by omega)
     refine ⟨0,true,zZ .str um un (some (m,()),(d.2.2.2.2.2.2.2.2.1,())),L',?_,?_,g2,g3,nofun⟩
     ·obtain ⟨dd,du,db,dt,uid,how,fl,ds,de,by',⟨⟩⟩:=d
      simp only at h9 hm hn hep
      subst h9;subst hn
      simp only [F26,zG,zJ,zR,hm,Option.isSome_some,Option.getD_some,zE,show decide ((9:Int)=1)=false by decide,zU,hep,zu,Bool.or_self]
     ·obtain ⟨dd,du,db,dt,uid,how,fl,ds,de,by',⟨⟩⟩:=d
      simp only at h9 h23 hep hb g1 hg
      subst h9
      simp only [F346,h23,zE,hb,zJ,F362,d0,d1,z8,zG,zr,hg,zU,hep,zu,g1]
    ·refine ⟨0,false,um,L,?_,?_,R,by omega,λ_=>⟨rfl,rfl⟩⟩
     ·obtain ⟨dd,du,db,dt,uid,how,fl,ds,de,by',⟨⟩⟩:=d
      simp only at h9 hm hep
      subst h9
      simp only [F26,zG,zJ,zR,hm,Option.isSome_some,Option.getD_some,zE,show decide ((9:Int)=1)=false by decide,zU,zz hep,zu,yq,Bool.or_true]
     ·obtain ⟨dd,du,db,dt,uid,how,fl,ds,de,by',⟨⟩⟩:=d
      simp only at h9 h23 hep hb hg
      subst h9
      simp only [F346,h23,zE,hb,zJ,F362,d0,d1,z8,zG,zr,hg,zU,zz hep,yq]
   ·have c9:decide (d.1=9)=false:=zz h9
    by_cases h8:d.1=8
    ·
     have has:=as_eq Rm ep hn
     have hu:=R.same d.2.1
     have G:Fine (un,uv,ls,()):=(Rm.fine.fine un (un,(uv,(ls,()))) (by rw [Rm.same];simp)).1
     have h34:=F334_eq G
     refine ⟨0,decide (putU (un,uv,ls,())=d.2.2.2.2.2.2.2.2.2.1),um,L,?_,?_,R,by omega,λ_=>⟨rfl,rfl⟩⟩
     ·have hsym:decide (d.2.2.2.2.2.2.2.2.2.1=putU (un,uv,ls,()))=decide (putU (un,uv,ls,())=d.2.2.2.2.2.2.2.2.2.1):=by
       by_cases h:putU (un,uv,ls,())=d.2.2.2.2.2.2.2.2.2.1
       ·rw [zW h,zW h.symm]
       ·rw [zz h,zz λe=>h e.symm]
      obtain ⟨dd,du,db,dt,uid,how,fl,ds,de,by',⟨⟩⟩:=d
      simp only at h8 hm has hsym
      subst h8
      simp only [F26,zG,zJ,zR,hm,Option.isSome_some,Option.getD_some,zE,show decide ((8:Int)=1)=false by decide,show decide ((8:Int)=9)=false by decide,zU,has,F27_eq,hsym]
     ·obtain ⟨dd,du,db,dt,uid,how,fl,ds,de,by',⟨⟩⟩:=d
      simp only at h8 h23 hb hg h34
      subst h8
      simp only [F346,h23,zE,hb,zJ,F362,d0,d1,z8,zG,zr,hg,zU,show decide ((8:Int)=9)=false by decide,h34]
    ·have c8:decide (d.1=8)=false:=zz h8
     obtain ⟨n,e,m',ly',O⟩:=do_one Rm d hs
     obtain ⟨i,hd⟩:=O.did
     obtain ⟨j,hr⟩:=O.ref
     by_cases he:e=0
     ·subst he
      obtain ⟨⟨x,hx⟩,_⟩:=O.keys rfl h8 h9
      obtain ⟨u,hu1,hu2⟩:=single O.rel hx Rm.fine.nodup (.inr ⟨by rw [Rm.len];rfl,by rw [Rm.same];simp [hn]⟩)
      subst hu1
      obtain ⟨vn,vv,vl,⟨⟩⟩:=u
      simp only at hu2
      subst hu2
      obtain ⟨L',g1,g2,g3⟩:=R.put (s:=((d.2.1,(vv,(vl,()))),(ep,()))) (m:=m') O.rel (by omega)
      simp only [if_true] at hd hr
      refine ⟨n,true,zZ .str um d.2.1 (some (m',()),(ep,())),L',?_,?_,g2,g3,nofun⟩
      ·obtain ⟨dd,du,db,dt,uid,how,fl,ds,de,by',⟨⟩⟩:=d
       simp only at c1 c8 c9 hm hd
       simp only [F26,zG,zJ,zR,hm,Option.isSome_some,Option.isNone_some,Option.getD_some,zE,c1,c8,c9,zu,List.getD_cons_zero,List.map_cons,List.map_nil,hd,zU,
        va,show decide ((0:Int)<((1:Nat):Int))=true by decide]
      ·obtain ⟨dd,du,db,dt,uid,how,fl,ds,de,by',⟨⟩⟩:=d
       simp only at c1 c8 c9 h23 hb hg hr g1
       simp only [F346,h23,zE,hb,zJ,F362,d0,d1,z8,zG,zr,hg,c8,c9,hr,zU,zu,va,show decide (((1:Nat):Int)=1)=true by decide,Bool.or_self,
        show decide ((0:Int)<((1:Nat):Int))=true by decide,List.getD_cons_zero,g1]
     ·simp only [if_neg he] at hd hr
      refine ⟨0,false,um,L,?_,?_,R,by omega,λ_=>⟨rfl,rfl⟩⟩
      ·obtain ⟨dd,du,db,dt,uid,how,fl,ds,de,by',⟨⟩⟩:=d
       simp only at c1 c8 c9 hm hd
       simp only [F26,zG,zJ,zR,hm,Option.isSome_some,Option.isNone_some,Option.getD_some,zE,c1,c8,c9,zu,List.getD_cons_zero,List.map_cons,List.map_nil,hd,zz he,yq]
      ·obtain ⟨dd,du,db,dt,uid,how,fl,ds,de,by',⟨⟩⟩:=d
       simp only at c1 c8 c9 h23 hb hg hr
       simp only [F346,h23,zE,hb,zJ,F362,d0,d1,z8,zG,zr,hg,c8,c9,hr,zz he,yq,Bool.true_or]
 ·
  rw [hL,look_no hA hB] at hS
  have hm:=seat_no hS
  by_cases h1:d.1=1
  ·obtain ⟨n,e,m',ly',O⟩:=do_one RelS.nil d hs
   obtain ⟨i,hd⟩:=O.did
   obtain ⟨j,hr⟩:=O.ref
   by_cases he:e=0
   ·subst he
    obtain ⟨⟨x,hx⟩,_⟩:=O.keys rfl (by omega) (by omega)
    obtain ⟨u,hu1,hu2⟩:=single O.rel hx List.nodup_nil (.inl rfl)
    subst hu1
    obtain ⟨vn,vv,vl,⟨⟩⟩:=u
    simp only at hu2
    subst hu2
    obtain ⟨L',g1,g2,g3⟩:=R.put (s:=((d.2.1,(vv,(vl,()))),(1,()))) (m:=m') O.rel (by omega)
    simp only [if_true] at hd hr
    refine ⟨n,true,zZ .str um d.2.1 (some (m',()),(1,())),L',?_,?_,g2,g3,nofun⟩
    ·obtain ⟨dd,du,db,dt,uid,how,fl,ds,de,by',⟨⟩⟩:=d
     simp only at h1 hm hd
     subst h1
     simp only [F26,zG,zJ,zR,hm,Option.isSome_none,Option.getD_none,zE,zU,F37,List.map_cons,List.map_nil,hd,zu,Bool.or_self,
      va,show decide ((0:Int)<((1:Nat):Int))=true by decide,List.getD_cons_zero]
    ·obtain ⟨dd,du,db,dt,uid,how,fl,ds,de,by',⟨⟩⟩:=d
     simp only at h1 h23 hr g1
     subst h1
     simp only [F346,h23,zE,zU,show (false == true)=false by rfl,zJ,zG,F362,show decide ((1:Int)=9)=false by decide,show decide ((1:Int)=8)=false by decide,hr,zu,
      va,show decide (((1:Nat):Int)=1)=true by decide,Bool.or_self,show decide ((0:Int)<((1:Nat):Int))=true by decide,List.getD_cons_zero,g1]
   ·simp only [if_neg he] at hd hr
    refine ⟨0,false,um,L,?_,?_,R,by omega,λ_=>⟨rfl,rfl⟩⟩
    ·obtain ⟨dd,du,db,dt,uid,how,fl,ds,de,by',⟨⟩⟩:=d
     simp only at h1 hm hd
     subst h1
     simp only [F26,zG,zJ,zR,hm,Option.isSome_none,Option.getD_none,zE,zU,F37,List.map_cons,List.map_nil,hd,zz he,yq,Bool.or_true]
    ·obtain ⟨dd,du,db,dt,uid,how,fl,ds,de,by',⟨⟩⟩:=d
     simp only at h1 h23 hr
     subst h1
     simp only [F346,h23,zE,zU,show (false == true)=false by rfl,zJ,zG,F362,show decide ((1:Int)=9)=false by decide,show decide ((1:Int)=8)=false by decide,hr,zz he,yq,Bool.true_or]
  ·have c1:decide (d.1=1)=false:=zz h1
   refine ⟨0,false,um,L,?_,?_,R,by omega,λ_=>⟨rfl,rfl⟩⟩
   ·obtain ⟨dd,du,db,dt,uid,how,fl,ds,de,by',⟨⟩⟩:=d
    simp only at c1 hm
    by_cases h9:dd=9
    ·simp only [F26,zG,zJ,zR,hm,Option.isSome_none,Option.getD_none,zE,c1,zW h9,yq,Bool.true_or]
    ·by_cases h8:dd=8
     ·simp only [F26,zG,zJ,zR,hm,Option.isSome_none,Option.getD_none,zE,c1,zz h9,zW h8]
     ·simp only [F26,zG,zJ,zR,hm,Option.isSome_none,Option.getD_none,zE,c1,zz h9,zz h8,yq]
   ·obtain ⟨dd,du,db,dt,uid,how,fl,ds,de,by',⟨⟩⟩:=d
    simp only at c1 h23
    simp only [F346,h23,zE,c1,beq_self_eq_true,zG]
end Go.Fo
