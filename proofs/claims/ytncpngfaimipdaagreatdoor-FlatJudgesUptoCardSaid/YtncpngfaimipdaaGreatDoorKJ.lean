/- Texts that the last one leans on, 10. -/
import Derived.Test.YtncpngfaimipdaaGreatDoorKI
namespace Go.Fl
open Go Go.Ev
set_option maxRecDepth 100000
abbrev Sa27:Type:=(Bool×Unit×(List Dd)×Int×Int×Unit)×((Unit×Unit)×Mp×(List Int)×Unit)
abbrev Sa24:Type:=(Bool×(List Dd)×(List Ur)×Unit×Int×Unit)×(((List Ur)×Unit)×(List Int)×Unit)
abbrev R24:Type:=((Bool×Unit×Unit)×(((List Ur)×Unit)×(List Int)×Unit))⊕((Bool×Unit×Int×Int×Unit)×(((List Ur)×Unit)×(List Int)×Unit))
def Ran (was:List Ur) (n:Nat) (r:R27) (s:R24):Prop :=
 (∃ m' ly' o,r=.inl ((true,(),()),(((),()),m',o,()))/\s=.inl ((true,(),()),((ly',()),o,()))/\RelS m' ly'/\o.length=n) \/
 (∃ (i:Nat) (e:Int) (m':Mp),e≠0/\i<n/\r=.inr ((true,(),(i:Int),e,()),(((),()),m',[],()))/\s=.inr ((true,(),(i:Int),e,()),((was,()),[],())))
theorem L72_L24 {m:Mp} {ly:List Ur} (R:RelS m ly) (l:List Dd) (hs:∀ d∈l,Small3 d) (hl:l.length<=12) :
  ∃ r s,L72_0 ((true,(),l,((l.length:Nat):Int),(0:Int),()),(((),()),m,([]:List Int),()))=some r/\L64_0 ((true,l,ly,(),(0:Int),()),((ly,()),([]:List Int),()))=some s/\Ran ly l.length r s:=by
 obtain ⟨r0,h0,-⟩:=L72_ex R.fine l (λd hd=>⟨Nat.le_trans (hs d hd).1 (by decide),Nat.le_trans (hs d hd).2.2 (by decide)⟩) hl
 have hstep:∀ (p:Sa27) (q:Sa24),(∃ (i:Nat) (m':Mp) (ly':List Ur) (o:List Int),i<=l.length/\o.length=i/\RelS m' ly'/\p=((true,(),l,((l.length:Nat):Int),(i:Int),()),(((),()),m',o,()))/\q=((true,l,ly,(),(i:Int),()),((ly',()),o,()))) ->
   (wX p=none/\B64_0 q=none)\/(∃ p' q',wX p=some (.inl p')/\B64_0 q=some (.inl q')/\(∃ (i:Nat) (m':Mp) (ly':List Ur) (o:List Int),i<=l.length/\o.length=i/\RelS m' ly'/\p'=((true,(),l,((l.length:Nat):Int),(i:Int),()),(((),()),m',o,()))/\q'=((true,l,ly,(),(i:Int),()),((ly',()),o,()))))\/(∃ r s,wX p=some (.inr r)/\B64_0 q=some (.inr s)/\Ran ly l.length r s):=by
  rintro p q ⟨i,m',ly',o,hi,ho,R',rfl,rfl⟩
  right
  rcases Nat.lt_or_ge i l.length with h | h
  ·have d0:decide ((i:Int)<((l.length:Nat):Int))=true:=zX (by omega)
   have d1:decide ((0:Int)<=(i:Int))=true:=zX (by omega)
   have w1:zZ ((i:Int)+1)=((i+1:Nat):Int):=by rw [zQ (by omega) (by omega)];rfl
   obtain ⟨d,hd⟩:∃ d,l[i]=d:=⟨_,rfl⟩
   have hg:∀ z,l.getD i z=d:=λz=>by rw [xo,List.getElem?_eq_getElem h,hd];rfl
   obtain ⟨n,e,m2,n',ly2,h48,h43,hn,R2,hne⟩:=(deed_both R' d (hs d (by rw [<- hd];exact List.getElem_mem h))).ex
   obtain ⟨dd,du,db,dt,uid,how,fl,ds,de,by',⟨⟩⟩:=d
   by_cases he:e=0
   ·subst he
    obtain rfl:=hn rfl
    left
    have hb:zC (o.length+[n'].length) 8=true:=zU (by simp only [vx];omega)
    refine ⟨((true,(),l,((l.length:Nat):Int),((i+1:Nat):Int),()),(((),()),m2,o++[n'],())),((true,l,ly,(),((i+1:Nat):Int),()),((ly2,()),o++[n'],())),?_,?_,i+1,m2,ly2,o++[n'],h,by simp [ho],R2,rfl,rfl⟩
    ·simp only [wX,d0,d1,yE,zH,zE,zu,hg,h48,zV,yA,zK,hb,w1]
    ·simp only [B64_0,d0,d1,yE,zH,zE,zu,hg,h43,zV,yA,zK,hb,w1]
   ·right
    refine ⟨.inr ((true,(),(i:Int),e,()),(((),()),m2,[],())),.inr ((true,(),(i:Int),e,()),((ly,()),[],())),?_,?_,.inr ⟨i,e,m2,he,h,rfl,rfl⟩⟩
    ·simp only [wX,d0,d1,yE,zH,zE,zu,hg,h48,z7 he,yx]
    ·simp only [B64_0,d0,d1,yE,zH,zE,zu,hg,h43,z7 he,yx]
  ·have hi':i=l.length:=by omega
   subst hi'
   right
   refine ⟨.inl ((true,(),()),(((),()),m',o,())),.inl ((true,(),()),((ly',()),o,())),?_,?_,.inl ⟨m',ly',o,rfl,rfl,R',ho⟩⟩
   ·simp only [wX,Int.lt_irrefl,yu,zK]
   ·simp only [B64_0,Int.lt_irrefl,yu,zK]
 rcases loop_sim (f:=wX) (g:=B64_0) _ _ hstep ((true,(),l,((l.length:Nat):Int),(0:Int),()),(((),()),m,([]:List Int),())) ((true,l,ly,(),(0:Int),()),((ly,()),([]:List Int),())) ⟨0,m,ly,[],Nat.zero_le _,rfl,R,rfl,rfl⟩ with ⟨h1,-⟩ | h
 ·have:L72_0 ((true,(),l,((l.length:Nat):Int),(0:Int),()),(((),()),m,([]:List Int),()))=none:=h1
  rw [this] at h0
  cases h0
 ·exact h
structure Done (m:Mp) (ly:List Ur) (l:List Dd) (i e:Int) (m':Mp) (ly':List Ur) (o:List Int):Prop where
 did:F58 ((true,l,()),(((),()),m,()))=some (((),i,e,()),(((),()),m',o,()))
 ref:F64 ((true,l,()),((ly,()),()))=some (((),i,e,()),((ly',()),o,()))
 rel:RelS m' ly'
 bad:e≠0->m'=m/\ly'=ly/\o=[]/\i<=((l.length:Nat):Int)
 good:e=0->o.length=l.length
theorem do_both {m:Mp} {ly:List Ur} (R:RelS m ly) (l:List Dd) (hs:∀ d∈l,Small3 d):∃ i e m' ly' o,Done m ly l i e m' ly' o:=by
 have key:∃ (i e:Int) (m1:Mp) (ly':List Ur) (o:List Int),F72 ((true,l,()),(((),()),m,()))=some (((),i,e,()),(((),()),m1,o,()))/\F64 ((true,l,()),((ly,()),()))=some (((),i,e,()),((ly',()),o,())) /\
   (e=0->RelS m1 ly'/\o.length=l.length)/\(e≠0->ly'=ly/\o=[]/\i<=((l.length:Nat):Int)):=by
  by_cases h0:l.length=0
  ·have c0:decide (((l.length:Nat):Int)=0)=true:=zX (by omega)
   exact ⟨0,2,m,ly,[],by simp only [F72,yA,zK,c0,zH],by simp only [F64,yA,zK,c0,zH],nofun,λ_=>⟨rfl,rfl,by omega⟩⟩
  ·have c0:decide (((l.length:Nat):Int)=0)=false:=z7 (by omega)
   by_cases h1:12<l.length
   ·have c1:decide ((12:Int)<((l.length:Nat):Int))=true:=zX (by omega)
    exact ⟨0,6,m,ly,[],by simp only [F72,yA,zK,c0,c1,zH],by simp only [F64,yA,zK,c0,c1,zH],nofun,λ_=>⟨rfl,rfl,by omega⟩⟩
   ·have c1:decide ((12:Int)<((l.length:Nat):Int))=false:=z7 (by omega)
    obtain ⟨r,s,e1,e2,hr⟩:=L72_L24 R l hs (by omega)
    rcases hr with ⟨m',ly',o,rfl,rfl,R',ho⟩ | ⟨i,e,m',he,hi,rfl,rfl⟩
    ·exact ⟨0,0,m',ly',o,by simp only [F72,yA,zK,c0,c1,e1,zE],by simp only [F64,yA,zK,zH,c0,c1,e2,zE],λ_=>⟨R',ho⟩,λh=>absurd rfl h⟩
    ·exact ⟨i,e,m',ly,[],by simp only [F72,yA,zK,c0,c1,e1,zE],by simp only [F64,yA,zK,zH,c0,c1,e2,zE],λh=>absurd h he,λ_=>⟨rfl,rfl,by omega⟩⟩
 obtain ⟨i,e,m1,ly',o,e27,e24,hg,hb⟩:=key
 by_cases he:e=0
 ·subst he
  obtain ⟨R',ho⟩:=hg rfl
  exact ⟨i,0,m1,ly',o,by simp only [F58,yA,zK,zH,zE,e27,zV],e24,R',λh=>absurd rfl h,λ_=>ho⟩
 ·obtain ⟨rfl,rfl,hi⟩:=hb he
  exact ⟨i,e,m,ly',[],by simp only [F58,yA,zK,zH,zE,e27,z7 he],e24,R,λ_=>⟨rfl,rfl,rfl,hi⟩,λh=>absurd h he⟩
theorem loop_one {σ τ:Type} {f:σ->Option (σ⊕τ)} {p:σ} {r:τ} (h:f p=some (.inr r)):zR f p=some r:=by
 unfold zR
 rw [show FUEL=(FUEL-1)+1 by unfold FUEL;omega]
 simp only [iter,h]
theorem loop_two {σ τ:Type} {f:σ->Option (σ⊕τ)} {p q:σ} {r:τ} (h1:f p=some (.inl q)) (h2:f q=some (.inr r)):zR f p=some r:=by
 unfold zR
 rw [show FUEL=(FUEL-2)+1+1 by unfold FUEL;omega]
 simp only [iter,h1,h2]
theorem F92_keys {m:Mp} (G:FineM m) (d:Dd) (hu:d.2.1.length<=1100000) (ht:d.2.2.2.1.length<=1100000) {n:Int} {m':Mp}
  (h:F92 ((true,d,()),(((),()),m,()))=some ((n,0,()),(((),()),m',()))) (h8:d.1≠8) (h9:d.1≠9) :
  (∃ x,m'=za .str m d.2.1 x)/\((zG .str m d.2.1).isSome=decide (d.1≠1)):=by
 have keep:∀ (r:Usr×Int×Int×Unit),F92 ((true,d,()),(((),()),m,()))=some ((kept m d.2.1 r).1,(((),()),(kept m d.2.1 r).2,()))->∃ x,m'=za .str m d.2.1 x:=λr hr=>by
  rw [h] at hr
  simp only [kept,xC,Prod.mk.injEq,true_and,and_true] at hr
  obtain ⟨⟨_,h0⟩,hm⟩:=hr
  rw [if_pos h0.symm] at hm
  exact ⟨_,hm⟩
 obtain ⟨e0,hc,hC⟩:=F117_ex d (Nat.le_trans hu (by decide))
 by_cases he0:e0=0
 ·subst he0
  obtain ⟨C,hE⟩:=hC rfl
  by_cases h1:d.1=1
  ·have e:=F92_open m d hc h1
   rw [h] at e
   simp only [xC,Prod.mk.injEq,true_and,and_true] at e
   obtain ⟨⟨_,e1⟩,e2⟩:=e
   unfold come at e1 e2
   have hn:(tS d.2.1).1=d.2.1:=rfl
   cases hg:(zG .str m (tS d.2.1).1).isSome with
   | true=>rw [hg] at e1;simp at e1
   | false =>
    rw [hg] at e1 e2
    by_cases hl:m.length=16
    ·simp [hl] at e1
    ·simp only [Bool.false_eq_true,if_false,if_neg hl] at e2
     rw [hn] at e2 hg
     exact ⟨⟨_,e2⟩,by rw [hg,h1];simp⟩
  ·have h1':decide (d.1≠1)=true:=zX h1
   cases hm:zG .str m d.2.1 with
   | none =>
    have e:=F92_gone m d hc h1 h8 hm
    rw [h] at e
    simp at e
   | some u =>
    refine ⟨?_,by rw [h1'];rfl⟩
    obtain ⟨Fu,hk⟩:=G.fine d.2.1 u hm
    have Gu:Good u:=Fu.good
    by_cases h23:d.1=2\/d.1=3
    ·obtain ⟨lo,e1,e2,e3,e4,e5,e6⟩:=F120_eq u d (Nat.le_trans Gu.few (by decide)) Gu.rise
     exact keep _ (F92_shape m d u lo hc h23 hm e1)
    ·rw [not_or] at h23
     by_cases h7:d.1=7
     ·obtain ⟨R,e1,e2⟩:=F121_ex Fu d ht
      exact keep _ (tq m d u R hc h7 hm e1)
     ·rcases F122_eq u d (Nat.le_trans Gu.few (by decide)) Gu.len Gu.rise with ⟨_,e1⟩ | ⟨lo,l1,l2,e1⟩
      ·exact keep _ (F92_box m d u _ hc h1 h23.1 h23.2 h7 h8 h9 hm e1)
      ·exact keep _ (F92_box m d u _ hc h1 h23.1 h23.2 h7 h8 h9 hm e1)
 ·have e:=F92_bad m d e0 hc he0
  rw [h] at e
  simp only [xC,Prod.mk.injEq] at e
  exact absurd e.1.2.1.symm he0
structure One (m:Mp) (ly:List Ur) (d:Dd) (n e:Int) (m':Mp) (ly':List Ur):Prop where
 did:∃ i,F58 ((true,[d],()),(((),()),m,()))=some (((),i,e,()),(((),()),m',if e=0 then [n] else [],()))
 ref:∃ i,F64 ((true,[d],()),((ly,()),()))=some (((),i,e,()),((ly',()),if e=0 then [n] else [],()))
 rel:RelS m' ly'
 bad:e≠0->m'=m/\ly'=ly
 keys:e=0->d.1≠8->d.1≠9->(∃ x,m'=za .str m d.2.1 x)/\((zG .str m d.2.1).isSome=decide (d.1≠1))
theorem do_one {m:Mp} {ly:List Ur} (R:RelS m ly) (d:Dd) (hs:Small3 d):∃ n e m' ly',One m ly d n e m' ly':=by
 obtain ⟨i,e,m',ly',o,D⟩:=do_both R [d] (λx hx=>by rw [List.mem_singleton.1 hx];exact hs)
 obtain ⟨n1,e1,m1,n1',l1',h1,_,_,_,_⟩:=(deed_both R d hs).ex
 have hF:F72 ((true,[d],()),(((),()),m,()))=some (((),0,e1,()),(((),()),m1,if e1=0 then [n1] else [],())):=by
  obtain ⟨dd,du,db,dt,uid,how,fl,ds,de,by',⟨⟩⟩:=d
  by_cases he:e1=0
  ·subst he
   have b1:wX ((true,(),[(dd,du,db,dt,uid,how,fl,ds,de,by',())],(1:Int),(0:Int),()),(((),()),m,([]:List Int),()))=some (.inl ((true,(),[(dd,du,db,dt,uid,how,fl,ds,de,by',())],(1:Int),(1:Int),()),(((),()),m1,[n1],()))):=by
    have w1:zZ ((0:Int)+1)=1:=by rw [zQ (by omega) (by omega)];rfl
    simp only [wX,Int.zero_lt_one,zV,zH,Int.le_refl,vx,show ((1:Nat):Int)=1 from rfl,yE,zE,Int.toNat_zero,List.getD_cons_zero,h1,yA,zK,w1,List.nil_append,List.length_nil,
     show zC (0+1) 8=true by rfl]
   have b2:wX ((true,(),[(dd,du,db,dt,uid,how,fl,ds,de,by',())],(1:Int),(1:Int),()),(((),()),m1,[n1],()))=some (.inr (.inl ((true,(),()),(((),()),m1,[n1],())))):=by
    simp only [wX,Int.lt_irrefl,yu,zK]
   have e72:L72_0 ((true,(),[(dd,du,db,dt,uid,how,fl,ds,de,by',())],(1:Int),(0:Int),()),(((),()),m,([]:List Int),()))=some (.inl ((true,(),()),(((),()),m1,[n1],()))):=loop_two b1 b2
   simp only [F72,yA,zK,vx,show ((1:Nat):Int)=1 from rfl,show decide ((1:Int)=0)=false by decide,show decide ((12:Int)<1)=false by decide,e72,zE,if_true]
  ·have b1:wX ((true,(),[(dd,du,db,dt,uid,how,fl,ds,de,by',())],(1:Int),(0:Int),()),(((),()),m,([]:List Int),()))=some (.inr (.inr ((true,(),(0:Int),e1,()),(((),()),m1,[],())))):=by
    simp only [wX,Int.zero_lt_one,zV,zH,Int.le_refl,vx,show ((1:Nat):Int)=1 from rfl,yE,zE,Int.toNat_zero,List.getD_cons_zero,h1,z7 he,yx]
   have e72:L72_0 ((true,(),[(dd,du,db,dt,uid,how,fl,ds,de,by',())],(1:Int),(0:Int),()),(((),()),m,([]:List Int),()))=some (.inr ((true,(),(0:Int),e1,()),(((),()),m1,[],()))):=loop_one b1
   simp only [F72,yA,zK,vx,show ((1:Nat):Int)=1 from rfl,show decide ((1:Int)=0)=false by decide,show decide ((12:Int)<1)=false by decide,e72,zE,if_neg he]
 have hD:F58 ((true,[d],()),(((),()),m,()))=some (((),0,e1,()),(((),()),(if e1=0 then m1 else m),(if e1=0 then [n1] else []),())):=by
  by_cases he:e1=0
  ·subst he
   simp only [F58,yA,zK,zH,hF,zE,zV,if_true]
  ·simp only [F58,yA,zK,zH,hF,zE,z7 he,if_neg he]
 have hd:=D.did
 rw [hD] at hd
 simp only [xC,Prod.mk.injEq,true_and,and_true] at hd
 obtain ⟨⟨hi,he⟩,hm,ho⟩:=hd
 subst he
 refine ⟨n1,e1,m',ly',⟨0,by rw [hD,<- hm]⟩,⟨i,by rw [D.ref,<- ho]⟩,D.rel,λh=>⟨(D.bad h).1,(D.bad h).2.1⟩,λh0 h8 h9=>?_⟩
 subst h0
 rw [if_pos rfl] at hm
 rw [<- hm]
 exact F92_keys R.fine d (Nat.le_trans hs.1 (by decide)) (Nat.le_trans hs.2.2 (by decide)) h1 h8 h9
def zz:Nat->Nat->List UInt8
 | 0,_=>[]
 | n+1,v=>UInt8.ofNat (v/256^n % 256)::zz n v
theorem zo:∀ (n v:Nat),(zz n v).length=n
 | 0,_=>rfl
 | n+1,v=>by rw [zz,List.length_cons,zo n v]
theorem u8of_nat (x:Nat):ua (x:Int)=UInt8.ofNat (x % 256):=by
 unfold ua
 congr 1
theorem L75_iter (v:Nat):∀ (j k:Nat) (b:List UInt8),j<k->j<=4->b.length+j<=1000000->iter B75_0 k (((),(v:Int),(j:Int)-1,()),(b,()))=some (((),()),(b++zz j v,()))
 | _,0,_,h,_,_=>absurd h (Nat.not_lt_zero _)
 | 0,k+1,b,_,_,_=>by
  rw [iter]
  have:decide ((0:Int)<=((0:Nat):Int)-1)=false:=rfl
  simp only [B75_0,this,zK,zz,List.append_nil]
 | j+1,k+1,b,h,h4,hb=>by
  rw [iter]
  have e0:((j+1:Nat):Int)-1=(j:Int):=by omega
  have d0:decide ((0:Int)<=(j:Int))=true:=zX (by omega)
  have w8:zZ (8*(j:Int))=((8*j:Nat):Int):=by rw [zQ (by omega) (by omega)];omega
  have d1:decide ((0:Int)<=((8*j:Nat):Int))=true:=zX (by omega)
  have w1:zZ ((j:Int)-1)=(j:Int)-1:=zQ (by omega) (by omega)
  have hm:min (8*j) (IntKind.bits .i64)=8*j:=by
   have:IntKind.bits .i64=64:=rfl
   rw [this];omega
  have hp:(2:Int)^(8*j)=((256^j:Nat):Int):=by
   rw [Int.pow_mul]
   rfl
  have hd:Int.fdiv (v:Int) ((256^j:Nat):Int)=((v/256^j:Nat):Int):=by
   rw [Int.fdiv_eq_ediv_of_nonneg _ (Int.natCast_nonneg _)]
   rfl
  have b1:∀ c:UInt8,zC (b.length+[c].length) 1=true:=λc=>zU (by simp only [vx];omega)
  have ih:=L75_iter v j k (b++[UInt8.ofNat (v/256^j % 256)]) (by omega) (by omega) (by rw [yS,vx];omega)
  simp only [e0,B75_0,d0,zH,w8,d1,zu,hm,hp,hd,u8of_nat,b1,zE,w1,ih,lAs,List.singleton_append,zz]
theorem tu (v n:Nat) (b:List UInt8) (hn:n<=4) (hb:b.length<=900000):F75 (((),(v:Int),(n:Int),()),(b,()))=some ((),(b++zz n v,())):=by
 have hF:=zO
 have w1:zZ ((n:Int)-1)=(n:Int)-1:=zQ (by omega) (by omega)
 have hL:L75_0 (((),(v:Int),(n:Int)-1,()),(b,()))=some (((),()),(b++zz n v,())):=L75_iter v n FUEL b (by omega) hn (by omega)
 simp only [F75,w1,hL,zE]
theorem F76_eq (s b:List UInt8) (hs:s.length<=1000) (hb:b.length<=900000):F76 (((),s,()),(b,()))=some ((),(b++(zz 1 s.length++s),())):=by
 have e:=tu s.length 1 b (by omega) hb
 rw [show ((1:Nat):Int)=1 from rfl] at e
 have b1:zC ((b++zz 1 s.length).length+s.length) 1=true:=zU (by rw [yS,zo];omega)
 simp only [F76,e,zE,b1,zH,lAs]
theorem F77_eq (s b:List UInt8) (hs:s.length<=1000) (hb:b.length<=900000):F77 (((),s,()),(b,()))=some ((),(b++(zz 2 s.length++s),())):=by
 have e:=tu s.length 2 b (by omega) hb
 rw [show ((2:Nat):Int)=2 from rfl] at e
 have b1:zC ((b++zz 2 s.length).length+s.length) 1=true:=zU (by rw [yS,zo];omega)
 simp only [F77,e,zE,b1,zH,lAs]
def putL (l:Ltr):List UInt8:=zz 4 l.1.toNat++(zz 1 l.2.1.toNat++(zz 2 l.2.2.1.length++l.2.2.1))
def putB (b:Bx):List UInt8:=zz 1 b.1.length++(b.1++(zz 4 b.2.1.toNat++(zz 4 b.2.2.1.toNat++(zz 1 b.2.2.2.1.length++b.2.2.2.1.flatMap putL))))
def putU (u:Usr):List UInt8:=zz 1 u.1.length++(u.1++(zz 4 u.2.1.toNat++(zz 1 u.2.2.1.length++u.2.2.1.flatMap putB)))
structure PutL (l:Ltr):Prop where
 uid:0<=l.1/\l.1<4294967296
 len:l.2.2.1.length<=600
theorem putL_len {l:Ltr} (h:PutL l):(putL l).length<=607:=by
 have:=h.len
 unfold putL
 simp only [yS,zo]
 omega
theorem flat_len {α:Type} (g:α->List UInt8) (B:Nat):∀ (ls:List α),(∀ l∈ls,(g l).length<=B)->(ls.flatMap g).length<=B*ls.length
 | [],_=>by simp
 | a::t,h=>by
  have h1:=h a (List.mem_cons_self ..)
  have h2:=flat_len g B t λl hl=>h l (List.mem_cons_of_mem _ hl)
  rw [List.flatMap_cons,yS,List.length_cons,Nat.mul_add,Nat.mul_one]
  omega
structure PutB (b:Bx):Prop where
 name:b.1.length<=24
 valid:0<=b.2.1/\b.2.1<4294967296
 next:0<=b.2.2.1/\b.2.2.1<4294967296
 few:b.2.2.2.1.length<=32
 each:∀ l∈b.2.2.2.1,PutL l
theorem putB_len {b:Bx} (h:PutB b):(putB b).length<=20000:=by
 have h1:=h.name
 have h2:=h.few
 have h3:=flat_len putL 607 b.2.2.2.1 λl hl=>putL_len (h.each l hl)
 unfold putB
 simp only [yS,zo]
 omega
theorem Right.put {b:Bx} (R:Right (yI b)) (hn:zl b.1=true):PutB b where
 name:=wz hn
 valid:=by have:=R.valid;unfold yI at this;simp only at this;omega
 next:=by have:=R.next;unfold yI at this;simp only at this;omega
 few:=R.few
 each:=λl hl=>by
  obtain ⟨h1,h2,h3,h4⟩:=R.each l hl
  have:=R.next
  exact ⟨by omega,h4⟩
theorem F74_fine {u:Usr} (G:Fine u):F74 ((u,()),())=some (0,()):=by
 rw [<- F47_F44 u (Nat.le_trans (user_le G.user) (by decide)) λb hb=>Nat.le_trans (wz (G.names b hb)) (by decide)]
 exact F47_eq G
theorem v7 {α τ:Type} (g:α->List UInt8) (fin:List UInt8->τ):∀ (l:List α) (b:List UInt8),zd (λa b=>(.inl (b++g a):List UInt8⊕τ)) fin b l=fin (b++l.flatMap g)
 | [],b=>by simp [zd]
 | a::t,b=>by
  simp only [zd]
  rw [v7 g fin t]
  simp
theorem L60_1_eq (bs:List Bx) (n0 i0:Int) (ls:List Ltr) (b:List UInt8) (hl:ls.length<=32) (hp:∀ l∈ls,PutL l) (hb:b.length<=400000) :
  L60_1 (((),bs,n0,i0,ls,((ls.length:Nat):Int),(0:Int),()),(b,()))=some (((),bs,n0,i0,()),(b++ls.flatMap putL,())):=by
 have hF:=zO
 unfold L60_1
 refine (zq (f:=B60_1) (λ(o:List UInt8) i=>(((),bs,n0,i0,ls,((ls.length:Nat):Int),(i:Int),()),(o,()))) ls (λa o=>.inl (o++putL a)) (λo=>(((),bs,n0,i0,()),(o,()))) (λo i=>o.length<=400000+607*i)
  (λo i a hI hi ha=>?_) (λo _=>?_) (by omega) (b:=b) (by omega)).trans ?_
 ·have hm:a∈ls:=by
   have:=ha ux
   rw [xo,List.getElem?_eq_getElem hi] at this
   rw [<- this]
   exact List.getElem_mem hi
  have hpa:=hp a hm
  have hlen:=putL_len hpa
  refine .inl ⟨_,rfl,by rw [yS];omega,?_⟩
  obtain ⟨uid,f,p,⟨⟩⟩:=a
  have h1:=hpa.uid
  have h2:=hpa.len
  simp only at h1 h2
  have d0:decide ((i:Int)<((ls.length:Nat):Int))=true:=zX (by omega)
  have d1:decide ((0:Int)<=(i:Int))=true:=zX (by omega)
  have w1:zZ ((i:Int)+1)=((i+1:Nat):Int):=by rw [zQ (by omega) (by omega)];rfl
  have e1:=tu uid.toNat 4 o (by omega) (by omega)
  rw [show ((uid.toNat:Nat):Int)=uid by omega,show ((4:Nat):Int)=4 from rfl] at e1
  have e2:=tu f.toNat 1 (o++zz 4 uid.toNat) (by omega) (by rw [yS,zo];omega)
  rw [show ((1:Nat):Int)=1 from rfl] at e2
  have e3:=F77_eq p ((o++zz 4 uid.toNat)++zz 1 f.toNat) (by omega) (by rw [yS,yS,zo,zo];omega)
  have ha':=ha (0,0,[],())
  simp only [lAs] at e2 e3
  simp only [B60_1,d0,d1,yE,zH,zu,ha',zE,e1,e2,e3,zV,zS,w1,putL]
 ·simp only [B60_1,Int.lt_irrefl,yu,zK]
 ·rw [v7]
theorem L60_0_eq (bs:List Bx) (b:List UInt8) (hl:bs.length<=6) (hp:∀ x∈bs,PutB x) (hb:b.length<=1000) :
  L60_0 (((),bs,((bs.length:Nat):Int),(0:Int),()),(b,()))=some (((),()),(b++bs.flatMap putB,())):=by
 have hF:=zO
 unfold L60_0
 refine (zq (f:=B60_0) (λ(o:List UInt8) i=>(((),bs,((bs.length:Nat):Int),(i:Int),()),(o,()))) bs (λa o=>.inl (o++putB a)) (λo=>(((),()),(o,()))) (λo i=>o.length<=1000+20000*i)
  (λo i a hI hi ha=>?_) (λo _=>?_) (by omega) (b:=b) (by omega)).trans ?_
 ·have hm:a∈bs:=by
   have:=ha yH
   rw [wR hi] at this
   rw [<- this]
   exact List.getElem_mem hi
  have hpa:=hp a hm
  have hlen:=putB_len hpa
  refine .inl ⟨_,rfl,by rw [yS];omega,?_⟩
  obtain ⟨bn,bv,bx,bl,⟨⟩⟩:=a
  have h1:=hpa.name
  have h2:=hpa.valid
  have h3:=hpa.next
  have h4:=hpa.few
  have h5:=hpa.each
  simp only at h1 h2 h3 h4 h5
  have d0:decide ((i:Int)<((bs.length:Nat):Int))=true:=zX (by omega)
  have d1:decide ((0:Int)<=(i:Int))=true:=zX (by omega)
  have w1:zZ ((i:Int)+1)=((i+1:Nat):Int):=by rw [zQ (by omega) (by omega)];rfl
  have e1:=F76_eq bn o (by omega) (by omega)
  have e2:=tu bv.toNat 4 (o++(zz 1 bn.length++bn)) (by omega) (by simp only [yS,zo];omega)
  rw [show ((bv.toNat:Nat):Int)=bv by omega,show ((4:Nat):Int)=4 from rfl] at e2
  have e3:=tu bx.toNat 4 ((o++(zz 1 bn.length++bn))++zz 4 bv.toNat) (by omega) (by simp only [yS,zo];omega)
  rw [show ((bx.toNat:Nat):Int)=bx by omega,show ((4:Nat):Int)=4 from rfl] at e3
  have e4:=tu bl.length 1 (((o++(zz 1 bn.length++bn))++zz 4 bv.toNat)++zz 4 bx.toNat) (by omega) (by simp only [yS,zo];omega)
  rw [show ((1:Nat):Int)=1 from rfl] at e4
  have e5:=L60_1_eq bs ((bs.length:Nat):Int) (i:Int) bl ((((o++(zz 1 bn.length++bn))++zz 4 bv.toNat)++zz 4 bx.toNat)++zz 1 bl.length) h4 h5 (by simp only [yS,zo];omega)
  have ha':=ha yH
  simp only [lAs] at e2 e3 e4 e5
  simp only [B60_0,d0,d1,yE,zH,zu,ha',zE,e1,e2,e3,e4,e5,zV,zS,w1,putB]
 ·simp only [B60_0,Int.lt_irrefl,yu,zK]
 ·rw [v7]
theorem F60_eq {u:Usr} (G:Fine u):F60 ((u,()),())=some (((),0,()),(putU u,())):=by
 have e44:=F74_fine G
 obtain ⟨un,uv,ls,⟨⟩⟩:=u
 have h1:=user_le G.user
 have h2:=G.good.valid
 have h3:=G.good.few
 have h4:∀ b∈ls,PutB b:=λb hb=>(G.good.each b hb).put (G.names b hb)
 simp only at h1 h2 h3
 have e1:=F76_eq un [] (by omega) (by simp)
 rw [List.nil_append] at e1
 have e2:=tu uv.toNat 4 (zz 1 un.length++un) (by omega) (by simp only [yS,zo];omega)
 rw [show ((uv.toNat:Nat):Int)=uv by omega,show ((4:Nat):Int)=4 from rfl] at e2
 have e3:=tu ls.length 1 ((zz 1 un.length++un)++zz 4 uv.toNat) (by omega) (by simp only [yS,zo];omega)
 rw [show ((1:Nat):Int)=1 from rfl] at e3
 have e4:=L60_0_eq ls (((zz 1 un.length++un)++zz 4 uv.toNat)++zz 1 ls.length) h3 h4 (by simp only [yS,zo];omega)
 simp only [lAs] at e2 e3 e4
 simp only [F60,e44,zE,zV,yA,zK,zH,e1,e2,e3,e4,zS,putU]
theorem tmod_nat (v:Nat):Int.tmod (v:Int) 256=((v % 256:Nat):Int):=by
 rw [Int.tmod_eq_emod_of_nonneg (Int.natCast_nonneg _)];rfl
theorem tdiv_nat (v:Nat):Int.tdiv (v:Int) 256=((v/256:Nat):Int):=by
 rw [Int.tdiv_eq_ediv_of_nonneg (Int.natCast_nonneg _)];rfl
theorem L48_iter (v n:Nat) (b:List UInt8) (hv:v<=4294967296) (hn:n<=4):∀ (j i k:Nat),i+j=n->j<k ->
  iter B48_0 k (((),((v/256^i:Nat):Int),(n:Int),(),(i:Int),()),(b,zz i v,()))=some (((),(),()),(b,zz n v,()))
 | j,i,0,_,h=>absurd h (Nat.not_lt_zero _)
 | 0,i,k+1,hi,_=>by
  have hin:i=n:=by omega
  subst hin
  rw [iter]
  simp only [B48_0,Int.lt_irrefl,yu,zK]
 | j+1,i,k+1,hi,hk=>by
  rw [iter]
  have d0:decide ((i:Int)<(n:Int))=true:=zX (by omega)
  have hle:v/256^i<=v:=Nat.div_le_self _ _
  have w1:zZ ((i:Int)+1)=((i+1:Nat):Int):=by rw [zQ (by omega) (by omega)];rfl
  have hdd:v/256^i/256=v/256^(i+1):=by rw [Nat.div_div_eq_div_mul,Nat.pow_succ]
  have hle2:v/256^(i+1)<=v:=Nat.div_le_self _ _
  have w2:zZ ((v/256^(i+1):Nat):Int)=((v/256^(i+1):Nat):Int):=by
   generalize v/256^(i+1)=q at hle2
   exact zQ (by omega) (by omega)
  have b1:∀ c:UInt8,zC ([c].length+(zz i v).length) 1=true:=λc=>zU (by rw [zo,vx];omega)
  have u1:ua (((v/256^i % 256:Nat)):Int)=UInt8.ofNat (v/256^i % 256):=by rw [u8of_nat,Nat.mod_mod]
  have ih:=L48_iter v n b hv hn j (i+1) k (by omega) (by omega)
  simp only [B48_0,d0,zH,tmod_nat,tdiv_nat,u1,b1,hdd,w2,w1,List.singleton_append]
  exact ih
theorem F48_eq (v n:Nat) (b:List UInt8) (hv:v<=4294967296) (hn:n<=4) (hb:b.length<=900000):F48 (((),(v:Int),(n:Int),()),(b,()))=some ((),(b++zz n v,())):=by
 have hF:=zO
 have hL:L48_0 (((),(v:Int),(n:Int),(),(0:Int),()),(b,([]:List UInt8),()))=some (((),(),()),(b,zz n v,())):=by
  have:=L48_iter v n b hv hn n 0 FUEL (by omega) (by omega)
  rw [Nat.pow_zero,Nat.div_one] at this
  exact this
 have b1:zC (b.length+(zz n v).length) 1=true:=zU (by rw [zo];omega)
 simp only [F48,hL,zE,b1,zH]
theorem F49_eq (s b:List UInt8) (hs:s.length<=1000) (hb:b.length<=800000):F49 (((),s,()),(b,()))=some ((),(b++(zz 1 s.length++s),())):=by
 have e:=F48_eq s.length 1 b (by omega) (by omega) (by omega)
 rw [show ((1:Nat):Int)=1 from rfl] at e
 have b1:zC ((b++zz 1 s.length).length+s.length) 1=true:=zU (by rw [yS,zo];omega)
 simp only [F49,e,zE,b1,zH,lAs]
theorem putn_u8 (c:UInt8):zz 1 c.toNat=[c]:=by
 simp only [zz,Nat.pow_zero,Nat.div_one]
 have:=c.toNat_lt
 rw [Nat.mod_eq_of_lt (by omega)]
 simp
theorem putn_one (n:Nat):[ua (n:Int)]=zz 1 n:=by
 simp only [zz,Nat.pow_zero,Nat.div_one,u8of_nat]
theorem L34_1_eq (un:Tx) (uv:Int) (bs:List Bx) (i0:Int) (bn:Tx) (bv bx:Int) (ls:List Ltr) (b:List UInt8) (hl:ls.length<=32) (hp:∀ l∈ls,PutL l) (hb:b.length<=400000) :
  L34_1 (((),(),i0,(),(0:Int),()),((un,uv,bs,()),b,(bn,bv,bx,ls,()),()))=some (((),(),i0,()),((un,uv,bs,()),b++ls.flatMap putL,())):=by
 have hF:=zO
 unfold L34_1
 refine (zq (f:=B34_1) (λ(o:List UInt8) i=>(((),(),i0,(),(i:Int),()),((un,uv,bs,()),o,(bn,bv,bx,ls,()),()))) ls (λa o=>.inl (o++putL a)) (λo=>(((),(),i0,()),((un,uv,bs,()),o,()))) (λo i=>o.length<=400000+607*i)
  (λo i a hI hi ha=>?_) (λo _=>?_) (by omega) (b:=b) (by omega)).trans ?_
 ·have hm:a∈ls:=by
   have:=ha ux
   rw [xo,List.getElem?_eq_getElem hi] at this
   rw [<- this]
   exact List.getElem_mem hi
  have hpa:=hp a hm
  have hlen:=putL_len hpa
  refine .inl ⟨_,rfl,by rw [yS];omega,?_⟩
  obtain ⟨uid,f,p,⟨⟩⟩:=a
  have h1:=hpa.uid
  have h2:=hpa.len
  simp only at h1 h2
  have d0:decide ((i:Int)<((ls.length:Nat):Int))=true:=zX (by omega)
  have d1:decide ((0:Int)<=(i:Int))=true:=zX (by omega)
  have w1:zZ ((i:Int)+1)=((i+1:Nat):Int):=by rw [zQ (by omega) (by omega)];rfl
  have e1:=F48_eq uid.toNat 4 o (by omega) (by omega) (by omega)
  rw [show ((uid.toNat:Nat):Int)=uid by omega,show ((4:Nat):Int)=4 from rfl] at e1
  have b1:zC ((o++zz 4 uid.toNat).length+[f].length) 1=true:=zU (by rw [yS,zo,vx];omega)
  have e3:=F48_eq p.length 2 ((o++zz 4 uid.toNat)++[f]) (by omega) (by omega) (by simp only [yS,zo,vx];omega)
  rw [show ((2:Nat):Int)=2 from rfl] at e3
  have b2:zC ((((o++zz 4 uid.toNat)++[f])++zz 2 p.length).length+p.length) 1=true:=zU (by simp only [yS,zo,vx];omega)
  have ha':=ha (0,0,[],())
  have eL:putL (uid,f,p,())=zz 4 uid.toNat++([f]++(zz 2 p.length++p)):=by simp only [putL,putn_u8]
  simp only [lAs] at e3 b2
  simp only [B34_1,d0,d1,yE,zH,zu,ha',zE,e1,b1,zV,zS,lAs,e3,b2,w1,eL]
 ·simp only [B34_1,Int.lt_irrefl,yu,zK]
 ·rw [v7]
theorem L34_0_eq (un:Tx) (uv:Int) (bs:List Bx) (b:List UInt8) (hl:bs.length<=6) (hp:∀ x∈bs,PutB x) (hb:b.length<=1000) :
  L34_0 (((),(),(0:Int),()),((un,uv,bs,()),b,()))=some (((),()),(b++bs.flatMap putB,())):=by
 have hF:=zO
 unfold L34_0
 refine (zq (f:=B34_0) (λ(o:List UInt8) i=>(((),(),(i:Int),()),((un,uv,bs,()),o,()))) bs (λa o=>.inl (o++putB a)) (λo=>(((),()),(o,()))) (λo i=>o.length<=1000+20000*i)
  (λo i a hI hi ha=>?_) (λo _=>?_) (by omega) (b:=b) (by omega)).trans ?_
 ·have hm:a∈bs:=by
   have:=ha yH
   rw [wR hi] at this
   rw [<- this]
   exact List.getElem_mem hi
  have hpa:=hp a hm
  have hlen:=putB_len hpa
  refine .inl ⟨_,rfl,by rw [yS];omega,?_⟩
  obtain ⟨bn,bv,bx,bl,⟨⟩⟩:=a
  have h1:=hpa.name
  have h2:=hpa.valid
  have h3:=hpa.next
  have h4:=hpa.few
  have h5:=hpa.each
  simp only at h1 h2 h3 h4 h5
  have d0:decide ((i:Int)<((bs.length:Nat):Int))=true:=zX (by omega)
  have d1:decide ((0:Int)<=(i:Int))=true:=zX (by omega)
  have w1:zZ ((i:Int)+1)=((i+1:Nat):Int):=by rw [zQ (by omega) (by omega)];rfl
  have e1:=F49_eq bn o (by omega) (by omega)
  have e2:=F48_eq bv.toNat 4 (o++(zz 1 bn.length++bn)) (by omega) (by omega) (by simp only [yS,zo];omega)
  rw [show ((bv.toNat:Nat):Int)=bv by omega,show ((4:Nat):Int)=4 from rfl] at e2
  have e3:=F48_eq bx.toNat 4 ((o++(zz 1 bn.length++bn))++zz 4 bv.toNat) (by omega) (by omega) (by simp only [yS,zo];omega)
  rw [show ((bx.toNat:Nat):Int)=bx by omega,show ((4:Nat):Int)=4 from rfl] at e3
  have b4:zC ((((o++(zz 1 bn.length++bn))++zz 4 bv.toNat)++zz 4 bx.toNat).length+(zz 1 bl.length).length) 1=true:=zU (by simp only [yS,zo];omega)
  have e5:=L34_1_eq un uv bs (i:Int) bn bv bx bl ((((o++(zz 1 bn.length++bn))++zz 4 bv.toNat)++zz 4 bx.toNat)++zz 1 bl.length) h4 h5 (by simp only [yS,zo];omega)
  have ha':=ha yH
  simp only [lAs] at e2 e3 b4 e5
  simp only [B34_0,d0,d1,yE,zH,zu,ha',zE,e1,e2,e3,putn_one,lAs,b4,e5,zV,w1,putB]
 ·simp only [B34_0,Int.lt_irrefl,yu,zK]
 ·rw [v7]
theorem F34_eq {u:Usr} (G:Fine u):F34 ((u,()),())=some (((),0,()),(putU u,())):=by
 have e44:=F47_eq G
 obtain ⟨un,uv,ls,⟨⟩⟩:=u
 have h1:=user_le G.user
 have h2:=G.good.valid
 have h3:=G.good.few
 have h4:∀ b∈ls,PutB b:=λb hb=>(G.good.each b hb).put (G.names b hb)
 simp only at h1 h2 h3
 have e1:=F49_eq un [] (by omega) (by simp)
 rw [List.nil_append] at e1
 have e2:=F48_eq uv.toNat 4 (zz 1 un.length++un) (by omega) (by omega) (by simp only [yS,zo];omega)
 rw [show ((uv.toNat:Nat):Int)=uv by omega,show ((4:Nat):Int)=4 from rfl] at e2
 have b3:zC (((zz 1 un.length++un)++zz 4 uv.toNat).length+(zz 1 ls.length).length) 1=true:=zU (by simp only [yS,zo];omega)
 have e4:=L34_0_eq un uv ls (((zz 1 un.length++un)++zz 4 uv.toNat)++zz 1 ls.length) h3 h4 (by simp only [yS,zo];omega)
 simp only [lAs] at e2 b3 e4
 simp only [F34,e44,zE,zV,yA,zK,zH,e1,e2,putn_one,lAs,b3,e4,putU]
abbrev Seat:Type:=Option (Mp×Unit)×(Int×Unit)
abbrev Um:Type:=List (Tx×Seat)
abbrev RS:Type:=Ur×(Int×Unit)
abbrev nos:RS:=(([],(0,([],()))),(0,()))
theorem getDs_eq {L:List RS} {i:Nat} (h:i<L.length):L.getD i nos=L[i]:=by
 rw [xo,List.getElem?_eq_getElem h];rfl
theorem F23_walk (L:List RS) (nm:Tx) (hl:L.length<=100000000) :
  ∃ lo:Nat,F23 ((L,nm,()),())=some (((lo:Int),decide (lo<L.length)&&decide ((L.getD lo nos).1.1=nm),()),())/\lo<=L.length /\
   (∀ k,k<lo->(L.getD k nos).1.1<nm)/\(lo<L.length->¬ (L.getD lo nos).1.1<nm):=by
 have hF:=zO
 obtain ⟨r,h1,lo,rfl,h2,h3,h4⟩:=yD (f:=B23_0) (p:=((L,nm,(0:Int),()),()))
  (λp=>∃ i:Nat,i<=L.length/\(∀ k,k<i->(L.getD k nos).1.1<nm)/\p=((L,nm,(i:Int),()),())) (λp=>L.length-p.1.2.2.1.toNat)
  (λr=>∃ lo:Nat,r=((L,nm,(lo:Int),()),())/\lo<=L.length/\(∀ k,k<lo->(L.getD k nos).1.1<nm)/\(lo<L.length->¬ (L.getD lo nos).1.1<nm))
  (λp ⟨i,hi,hk,hp⟩=>by
   subst hp
   rcases Nat.lt_or_ge i L.length with h | h
   ·have d0:decide ((i:Int)<((L.length:Nat):Int))=true:=zX (by omega)
    have d1:decide ((0:Int)<=(i:Int))=true:=zX (by omega)
    have w1:zZ ((i:Int)+1)=((i+1:Nat):Int):=by rw [zQ (by omega) (by omega)];rfl
    by_cases hb:(L.getD i nos).1.1<nm
    ·left
     refine ⟨((L,nm,((i+1:Nat):Int),()),()),?_,⟨i+1,h,λk hk'=>?_,rfl⟩,by simp only;omega⟩
     ·have hb':Op.bytesLess (L.getD i nos).1.1 nm=true:=by rw [bl_eq];exact zX hb
      simp only [B23_0,d0,d1,yE,Bool.true_or,zH,zu,hb',w1]
     ·rcases Nat.lt_or_ge k i with h' | h'
      ·exact hk k h'
      ·obtain rfl:k=i:=by omega
       exact hb
    ·right
     refine ⟨((L,nm,(i:Int),()),()),?_,i,rfl,hi,hk,λ_=>hb⟩
     have hb':Op.bytesLess (L.getD i nos).1.1 nm=false:=by rw [bl_eq];exact z7 hb
     simp only [B23_0,d0,d1,yE,Bool.true_or,zH,zu,hb',Bool.and_false,zK]
   ·right
    have d0:decide ((i:Int)<((L.length:Nat):Int))=false:=z7 (by omega)
    refine ⟨((L,nm,(i:Int),()),()),?_,i,rfl,hi,hk,λh'=>absurd h' (by omega)⟩
    simp only [B23_0,d0,Bool.and_false,Bool.false_and,yx,Bool.or_true,zH,zK]) ⟨0,Nat.zero_le _,λk hk=>absurd hk (by omega),rfl⟩ (by simp only;omega)
 have hL:L23_0 ((L,nm,(0:Int),()),())=some ((L,nm,(lo:Int),()),()):=h1
 refine ⟨lo,?_,h2,h3,h4⟩
 have d1:decide ((0:Int)<=(lo:Int))=true:=zX (by omega)
 have e:decide ((lo:Int)<((L.length:Nat):Int))=decide (lo<L.length):=by simp
 have o:(decide (lo<L.length)||!decide (lo<L.length))=true:=by cases decide (lo<L.length) <;> rfl
 simp only [F23,hL,zE,d1,Bool.true_and,e,o,zH,zu]
def Rise (L:List RS):Prop:=L.Pairwise λa b=>a.1.1<b.1.1
theorem F23_eq {L:List RS} (hr:Rise L) (nm:Tx) (hl:L.length<=100000000) :
  (∃ A s B,L=A++s::B/\s.1.1=nm/\(∀ x∈A,x.1.1<nm)/\(∀ x∈B,nm<x.1.1)/\F23 ((L,nm,()),())=some ((((A.length:Nat):Int),true,()),())) \/
  (∃ A B,L=A++B/\(∀ x∈A,x.1.1<nm)/\(∀ x∈B,nm<x.1.1)/\F23 ((L,nm,()),())=some ((((A.length:Nat):Int),false,()),())):=by
 obtain ⟨lo,h1,h2,h3,h4⟩:=F23_walk L nm hl
 have hlow:∀ x∈L.take lo,x.1.1<nm:=λx hx=>by
  obtain ⟨i,hi,rfl⟩:=List.mem_take_iff_getElem.1 hx
  have:=h3 i (by omega)
  rwa [getDs_eq (by omega)] at this
 have hlen:(L.take lo).length=lo:=by rw [yy];omega
 by_cases h:lo<L.length
 ·have hd:L.drop lo=L[lo]::L.drop (lo+1):=List.drop_eq_getElem_cons h
  have hsp:L=L.take lo++L[lo]::L.drop (lo+1):=by rw [<- hd,List.take_append_drop]
  have hp:(L.drop lo).Pairwise (λa b=>a.1.1<b.1.1):=List.Pairwise.sublist (List.drop_sublist _ _) hr
  rw [hd] at hp
  obtain ⟨p1,p2⟩:=List.pairwise_cons.1 hp
  have hge:=h4 h
  rw [getDs_eq h] at hge h1
  by_cases he:L[lo].1.1=nm
  ·left
   refine ⟨L.take lo,L[lo],L.drop (lo+1),hsp,he,hlow,λx hx=>by rw [<- he];exact p1 x hx,?_⟩
   rw [h1,hlen,zX h,zX he];rfl
  ·right
   have hlt:=wH hge he
   refine ⟨L.take lo,L.drop lo,(List.take_append_drop _ _).symm,hlow,λx hx=>?_,?_⟩
   ·rw [hd] at hx
    rcases List.mem_cons.1 hx with rfl | hx
    ·exact hlt
    ·exact List.lt_trans hlt (p1 x hx)
   ·rw [h1,hlen,z7 he,Bool.and_false]
 ·right
  refine ⟨L.take lo,L.drop lo,(List.take_append_drop _ _).symm,hlow,λx hx=>?_,?_⟩
  ·rw [List.drop_eq_nil_of_le (by omega)] at hx;cases hx
  ·rw [h1,hlen,z7 h,Bool.false_and]
theorem F63_eq {L:List RS} (hr:Rise L) (s:RS) (hl:L.length<=100000000) :
  (∃ A t B,L=A++t::B/\t.1.1=s.1.1/\(∀ x∈A,x.1.1<s.1.1)/\(∀ x∈B,s.1.1<x.1.1)/\F63 ((L,(s.1.1,s.1.2.1,s.1.2.2.1,s.2.1,()),()),())=some ((),(A++s::B,()))) \/
  (∃ A B,L=A++B/\(∀ x∈A,x.1.1<s.1.1)/\(∀ x∈B,s.1.1<x.1.1)/\F63 ((L,(s.1.1,s.1.2.1,s.1.2.2.1,s.2.1,()),()),())=some ((),(A++s::B,()))):=by
 obtain ⟨⟨un,uv,ls,⟨⟩⟩,ep,⟨⟩⟩:=s
 have key:∀ (A B C:List RS) (there:Bool),L=A++C->(there=true->∃ t,C=t::B)->(there=false->C=B)->F23 ((L,un,()),())=some ((((A.length:Nat):Int),there,()),()) ->
   F63 ((L,(un,uv,ls,ep,()),()),())=some ((),(A++((un,(uv,(ls,()))),(ep,()))::B,())):=by
  intro A B C there hL h1 h2 h23
  have ht:L.take A.length=A:=by rw [hL];simp
  have hlA:A.length<=L.length:=by rw [hL];simp
  have d0:decide ((0:Int)<=((A.length:Nat):Int))=true:=zX (by omega)
  have d1:decide (((A.length:Nat):Int)<=((L.length:Nat):Int))=true:=zX (by omega)
  have b1:∀ (x y:List RS),x.length+y.length<=200000001->zC (x.length+y.length) 56=true:=λx y h=>zU (by omega)
  have d2:decide (((L.length:Nat):Int)<=((L.length:Nat):Int))=true:=zX (by omega)
  cases there with
  | true =>
   obtain ⟨t,rfl⟩:=h1 rfl
   have hlB:L.length=A.length+1+B.length:=by rw [hL];simp;omega
   have w1:zZ (((A.length:Nat):Int)+1)=((A.length+1:Nat):Int):=by rw [zQ (by omega) (by omega)];rfl
   have d3:decide ((0:Int)<=((A.length+1:Nat):Int))=true:=zX (by omega)
   have d4:decide (((A.length+1:Nat):Int)<=((L.length:Nat):Int))=true:=zX (by omega)
   have hdr:(L.drop (A.length+1)).take (L.length-(A.length+1))=B:=by
    rw [List.take_of_length_le (by rw [u0];omega),hL,show A.length+1=(A++[t]).length by simp,show A++t::B=(A++[t])++B by simp,List.drop_left]
   simp only [F63,h23,zE,d0,d1,yE,zH,zu,ht,List.nil_append,b1 ([]:List RS) A (by simp<;>omega),b1 A [((un,(uv,(ls,()))),(ep,()))] (by simp<;>omega),w1,d3,d4,d2,hdr,
    b1 (A++[((un,(uv,(ls,()))),(ep,()))]) B (by simp<;>omega)]
   simp
  | false =>
   have hC:=h2 rfl
   subst hC
   have hlB:L.length=A.length+C.length:=by rw [hL];simp
   have hdr:(L.drop A.length).take (L.length-A.length)=C:=by
    rw [List.take_of_length_le (by rw [u0];omega),hL,List.drop_left]
   simp only [F63,h23,zE,d0,d1,yE,zH,zK,zu,ht,List.nil_append,b1 ([]:List RS) A (by simp<;>omega),b1 A [((un,(uv,(ls,()))),(ep,()))] (by simp<;>omega),d2,hdr,
    b1 (A++[((un,(uv,(ls,()))),(ep,()))]) C (by simp<;>omega)]
   simp
 rcases F23_eq hr un hl with ⟨A,t,B,e1,e2,e3,e4,e5⟩ | ⟨A,B,e1,e3,e4,e5⟩
 ·exact .inl ⟨A,t,B,e1,e2,e3,e4,key A B (t::B) true e1 (λ_=>⟨t,rfl⟩) nofun e5⟩
 ·exact .inr ⟨A,B,e1,e3,e4,key A B B false e1 nofun (λ_=>rfl) e5⟩
theorem tx_ne {a b:Tx} (h:a<b):a≠b:=λe=>by subst e;exact List.lt_irrefl _ h
def look (L:List RS) (k:Tx):Option RS:=L.find? λs=>decide (s.1.1=k)
theorem look_at {A B:List RS} {s:RS} {nm:Tx} (he:s.1.1=nm) (hA:∀ x∈A,x.1.1<nm):look (A++s::B) nm=some s:=by
 unfold look
 rw [List.find?_append,List.find?_eq_none.2 (λx hx=>by simpa using tx_ne (hA x hx))]
 simp [he]
theorem look_no {A B:List RS} {nm:Tx} (hA:∀ x∈A,x.1.1<nm) (hB:∀ x∈B,nm<x.1.1):look (A++B) nm=none:=by
 unfold look
 rw [List.find?_eq_none]
 intro x hx
 rcases List.mem_append.1 hx with hx | hx
 ·simpa using tx_ne (hA x hx)
 ·simpa using λe=>tx_ne (hB x hx) e.symm
theorem look_other {A B C:List RS} {s:RS} {k:Tx} (hk:k≠s.1.1) (hC:∀ t∈C,t.1.1=s.1.1):look (A++s::B) k=look (A++(C++B)) k:=by
 unfold look
 rw [List.find?_append,List.find?_append,List.find?_append]
 have h1:C.find? (λs=>decide (s.1.1=k))=none:=by
  rw [List.find?_eq_none]
  intro x hx
  simpa [hC x hx] using λe=>hk e.symm
 have h2:(s::B).find? (λs=>decide (s.1.1=k))=B.find? (λs=>decide (s.1.1=k)):=by
  rw [List.find?_cons]
  have:decide (s.1.1=k)=false:=z7 λe=>hk e.symm
  rw [this]
 rw [h1,h2,Option.none_or]
theorem rise_put {A B:List RS} {s:RS} (h:Rise (A++B)) (hA:∀ x∈A,x.1.1<s.1.1) (hB:∀ x∈B,s.1.1<x.1.1):Rise (A++s::B):=by
 unfold Rise at *
 obtain ⟨h1,h2,h3⟩:=List.pairwise_append.1 h
 refine List.pairwise_append.2 ⟨h1,List.pairwise_cons.2 ⟨λx hx=>hB x hx,h2⟩,λa ha b hb=>?_⟩
 rcases List.mem_cons.1 hb with rfl | hb
 ·exact hA a ha
 ·exact h3 a ha b hb
inductive SeatOK:Option RS->Option Seat->Prop
 | no:SeatOK none none
 | is {s:RS} {m:Mp}:RelS m [s.1]->SeatOK (some s) (some (some (m,()),s.2))
structure RelF (um:Um) (L:List RS):Prop where
 rise:Rise L
 nd:(um.map (·.1)).Nodup
 same:∀ k:Tx,SeatOK (look L k) (zG .str um k)
theorem RelF.nil:RelF [] []:=⟨List.Pairwise.nil,List.nodup_nil,λ_=>.no⟩
theorem RelF.put {um:Um} {L:List RS} (R:RelF um L) {s:RS} {m:Mp} (hs:RelS m [s.1]) (hl:L.length<=100000000) :
  ∃ L',F63 ((L,(s.1.1,s.1.2.1,s.1.2.2.1,s.2.1,()),()),())=some ((),(L',()))/\RelF (za .str um s.1.1 (some (m,()),s.2)) L'/\L'.length<=L.length+1:=by
 have KS:KE .str:=KE_str
 have get:∀ k,zG .str (za .str um s.1.1 (some (m,()),s.2)) k=cond (yf .str k s.1.1) (some (some (m,()),s.2)) (zG .str um k):=λk=>vw KS R.nd
 have fin:∀ A B C:List RS,L=A++(C++B)->(∀ t∈C,t.1.1=s.1.1)->(∀ x∈A,x.1.1<s.1.1)->(∀ x∈B,s.1.1<x.1.1)->RelF (za .str um s.1.1 (some (m,()),s.2)) (A++s::B):=by
  intro A B C hL hC hA hB
  refine ⟨rise_put (List.Pairwise.sublist ?_ R.rise) hA hB,uz KS R.nd,λk=>?_⟩
  ·rw [hL]
   exact List.Sublist.append_left (List.sublist_append_right _ _) _
  ·rw [get]
   by_cases hk:k=s.1.1
   ·subst hk
    rw [KS.eq,zH,look_at rfl hA]
    exact .is hs
   ·rw [KS.ne hk,zK,look_other hk hC,<- hL]
    exact R.same k
 rcases F63_eq R.rise s hl with ⟨A,t,B,h1,h2,h3,h4,h5⟩ | ⟨A,B,h1,h3,h4,h5⟩
 ·exact ⟨_,h5,fin A B [t] (by simpa using h1) (by simpa using h2) h3 h4,by rw [h1];simp only [yS,List.length_cons];omega⟩
 ·exact ⟨_,h5,fin A B [] (by simpa using h1) (by simp) h3 h4,by rw [h1];simp only [yS,List.length_cons];omega⟩
theorem single {m':Mp} {ly':List Ur} (R:RelS m' ly') {m:Mp} {nm:Tx} {x:Tx×(Int×(List Bx×Unit))} (hm:m'=za .str m nm x) (hnd:(m.map (·.1)).Nodup) (h:m=[]\/(m.length=1/\(zG .str m nm).isSome=true)) :
  ∃ u,ly'=[u]/\u.1=nm:=by
 have hl:m'.length=1:=by
  rw [hm,vu KE_str]
  rcases h with rfl | ⟨h1,h2⟩
  ·rfl
  ·rw [h2,zH,h1]
 rw [R.len] at hl
 obtain ⟨u,rfl⟩:=List.length_eq_one_iff.1 hl
 refine ⟨u,rfl,?_⟩
 have hs:=R.same nm
 rw [hm,vw KE_str hnd,KE_str.eq,zH] at hs
 by_cases he:u.1=nm
 ·exact he
 ·simp [he] at hs
structure Oned (um:Um) (jm:List (Int×((List Dd)×(Bool×(Bool×Unit))))) (last:Int) (L:List RS) (d:Dd) (n:Int) (ok:Bool) (um':Um) (L':List RS):Prop where
 did:F42 ((true,d,()),(((),(),last,()),um,jm,()))=some ((n,ok,()),(((),(),last,()),um',jm,()))
 ref:F46 ((L,d,()),())=some ((L',n,ok,()),())
 rel:RelF um' L'
 len:L'.length<=L.length+1
 bad:ok=false->um'=um/\L'=L
theorem getA {A B:List RS} {s:RS} (x:RS):(A++s::B).getD A.length x=s:=by simp
theorem seat_is {o:Option Seat} {s:RS} (h:SeatOK (some s) o):∃ m,o=some (some (m,()),s.2)/\RelS m [s.1]:=by
 cases h with
 | is h=>exact ⟨_,rfl,h⟩
theorem seat_no {o:Option Seat} (h:SeatOK none o):o=none:=by cases h;rfl
theorem as_eq {m:Mp} {u:Ur} (R:RelS m [u]) (ep:Int) {nm:Tx} (hn:u.1=nm):F44 (((some (m,()),ep,()),nm,()),())=some ((),(putU u,())):=by
 have hg:zG .str m nm=some u:=by
  rw [R.same nm]
  simp [hn]
 have G:Fine (usr u):=(R.fine.fine nm u hg).1
 have e1:=F22_eq hg G.good
 have e2:=F60_eq G
 obtain ⟨un,uv,ls,⟨⟩⟩:=u
 unfold usr at e2
 simp only at e1 e2
 simp only [F44,e1,zE,e2]
theorem F43_eq (a b:List UInt8):F43 ((a,b,()),())=some (decide (a=b),()):=rfl
theorem one_both {um:Um} {L:List RS} (R:RelF um L) (jm:List (Int×((List Dd)×(Bool×(Bool×Unit))))) (last:Int) (d:Dd) (hs:Small3 d) (hl:L.length<=99999999) :
  ∃ n ok um' L',Oned um jm last L d n ok um' L':=by
 have hS:=R.same d.2.1
 rcases F23_eq R.rise d.2.1 (by omega) with ⟨A,s,B,hL,hn,hA,hB,h23⟩ | ⟨A,B,hL,hA,hB,h23⟩
 ·
  rw [hL,look_at hn hA] at hS
  obtain ⟨m,hm,Rm⟩:=seat_is hS
  by_cases h1:d.1=1
  ·obtain ⟨n,e,m',ly',O⟩:=do_one RelS.nil d hs
   obtain ⟨i,hd⟩:=O.did
   refine ⟨0,false,um,L,?_,?_,R,by omega,λ_=>⟨rfl,rfl⟩⟩
   ·obtain ⟨dd,du,db,dt,uid,how,fl,ds,de,by',⟨⟩⟩:=d
    simp only at h1 hm
    subst h1
    simp only [F42,zH,zS,hm,Option.isSome_some,Option.getD_some,zE,zV,F57,List.map_cons,List.map_nil,hd,Bool.true_or]
   ·obtain ⟨dd,du,db,dt,uid,how,fl,ds,de,by',⟨⟩⟩:=d
    simp only at h1 h23
    subst h1
    simp only [F46,h23,zE,zV,beq_self_eq_true,zH]
  ·have c1:decide (d.1=1)=false:=z7 h1
   have hAl:A.length<L.length:=by rw [hL];simp
   have d0:decide ((0:Int)<=((A.length:Nat):Int))=true:=zX (by omega)
   have d1:decide (((A.length:Nat):Int)<((L.length:Nat):Int))=true:=zX (by omega)
   have hg:L.getD A.length nos=s:=by rw [hL];exact getA _
   have hb:(true == decide (d.1=1))=false:=by rw [c1];rfl
   obtain ⟨⟨un,uv,ls,⟨⟩⟩,ep,⟨⟩⟩:=s
   simp only at hn hm Rm
   by_cases h9:d.1=9
   ·
    by_cases hep:zZ (d.2.2.2.2.2.2.2.2.1-1)=ep
    ·obtain ⟨L',g1,g2,g3⟩:=R.put (s:=((un,(uv,(ls,()))),(d.2.2.2.2.2.2.2.2.1,()))) (m:=m) Rm (by omega)
     refine ⟨0,true,za .str um un (some (m,()),(d.2.2.2.2.2.2.2.2.1,())),L',?_,?_,g2,g3,nofun⟩
     ·obtain ⟨dd,du,db,dt,uid,how,fl,ds,de,by',⟨⟩⟩:=d
      simp only at h9 hm hn hep
      subst h9;subst hn
      simp only [F42,zH,zK,zS,hm,Option.isSome_some,Option.getD_some,zE,show decide ((9:Int)=1)=false by decide,zV,hep,yA,Bool.or_self]
     ·obtain ⟨dd,du,db,dt,uid,how,fl,ds,de,by',⟨⟩⟩:=d
      simp only at h9 h23 hep hb g1 hg
      subst h9
      simp only [F46,h23,zE,hb,zK,F62,d0,d1,yE,zH,zu,hg,zV,hep,yA,g1]
    ·refine ⟨0,false,um,L,?_,?_,R,by omega,λ_=>⟨rfl,rfl⟩⟩
     ·obtain ⟨dd,du,db,dt,uid,how,fl,ds,de,by',⟨⟩⟩:=d
      simp only at h9 hm hep
      subst h9
      simp only [F42,zH,zK,zS,hm,Option.isSome_some,Option.getD_some,zE,show decide ((9:Int)=1)=false by decide,zV,z7 hep,yA,yx,Bool.or_true]
     ·obtain ⟨dd,du,db,dt,uid,how,fl,ds,de,by',⟨⟩⟩:=d
      simp only at h9 h23 hep hb hg
      subst h9
      simp only [F46,h23,zE,hb,zK,F62,d0,d1,yE,zH,zu,hg,zV,z7 hep,yx]
   ·have c9:decide (d.1=9)=false:=z7 h9
    by_cases h8:d.1=8
    ·
     have has:=as_eq Rm ep hn
     have hu:=R.same d.2.1
     have G:Fine (un,uv,ls,()):=(Rm.fine.fine un (un,(uv,(ls,()))) (by rw [Rm.same];simp)).1
     have h34:=F34_eq G
     refine ⟨0,decide (putU (un,uv,ls,())=d.2.2.2.2.2.2.2.2.2.1),um,L,?_,?_,R,by omega,λ_=>⟨rfl,rfl⟩⟩
     ·have hsym:decide (d.2.2.2.2.2.2.2.2.2.1=putU (un,uv,ls,()))=decide (putU (un,uv,ls,())=d.2.2.2.2.2.2.2.2.2.1):=by
       by_cases h:putU (un,uv,ls,())=d.2.2.2.2.2.2.2.2.2.1
       ·rw [zX h,zX h.symm]
       ·rw [z7 h,z7 λe=>h e.symm]
      obtain ⟨dd,du,db,dt,uid,how,fl,ds,de,by',⟨⟩⟩:=d
      simp only at h8 hm has hsym
      subst h8
      simp only [F42,zH,zK,zS,hm,Option.isSome_some,Option.getD_some,zE,show decide ((8:Int)=1)=false by decide,show decide ((8:Int)=9)=false by decide,zV,has,F43_eq,hsym]
     ·obtain ⟨dd,du,db,dt,uid,how,fl,ds,de,by',⟨⟩⟩:=d
      simp only at h8 h23 hb hg h34
      subst h8
      simp only [F46,h23,zE,hb,zK,F62,d0,d1,yE,zH,zu,hg,zV,show decide ((8:Int)=9)=false by decide,h34]
    ·have c8:decide (d.1=8)=false:=z7 h8
     obtain ⟨n,e,m',ly',O⟩:=do_one Rm d hs
     obtain ⟨i,hd⟩:=O.did
     obtain ⟨j,hr⟩:=O.ref
     by_cases he:e=0
     ·subst he
      obtain ⟨⟨x,hx⟩,_⟩:=O.keys rfl h8 h9
      obtain ⟨u,hu1,hu2⟩:=single O.rel hx Rm.fine.nodup (.inr ⟨by rw [Rm.len];rfl,by rw [Rm.same];simp [hn]⟩)
      subst hu1
      obtain ⟨vn,vv,vl,⟨⟩⟩:=u
      simp only at hu2
      subst hu2
      obtain ⟨L',g1,g2,g3⟩:=R.put (s:=((d.2.1,(vv,(vl,()))),(ep,()))) (m:=m') O.rel (by omega)
      simp only [if_true] at hd hr
      refine ⟨n,true,za .str um d.2.1 (some (m',()),(ep,())),L',?_,?_,g2,g3,nofun⟩
      ·obtain ⟨dd,du,db,dt,uid,how,fl,ds,de,by',⟨⟩⟩:=d
       simp only at c1 c8 c9 hm hd
       simp only [F42,zH,zK,zS,hm,Option.isSome_some,Option.isNone_some,Option.getD_some,zE,c1,c8,c9,yA,List.getD_cons_zero,List.map_cons,List.map_nil,hd,zV,
        vx,show decide ((0:Int)<((1:Nat):Int))=true by decide]
      ·obtain ⟨dd,du,db,dt,uid,how,fl,ds,de,by',⟨⟩⟩:=d
       simp only at c1 c8 c9 h23 hb hg hr g1
       simp only [F46,h23,zE,hb,zK,F62,d0,d1,yE,zH,zu,hg,c8,c9,hr,zV,yA,vx,show decide (((1:Nat):Int)=1)=true by decide,Bool.or_self,
        show decide ((0:Int)<((1:Nat):Int))=true by decide,List.getD_cons_zero,g1]
     ·simp only [if_neg he] at hd hr
      refine ⟨0,false,um,L,?_,?_,R,by omega,λ_=>⟨rfl,rfl⟩⟩
      ·obtain ⟨dd,du,db,dt,uid,how,fl,ds,de,by',⟨⟩⟩:=d
       simp only at c1 c8 c9 hm hd
       simp only [F42,zH,zK,zS,hm,Option.isSome_some,Option.isNone_some,Option.getD_some,zE,c1,c8,c9,yA,List.getD_cons_zero,List.map_cons,List.map_nil,hd,z7 he,yx]
      ·obtain ⟨dd,du,db,dt,uid,how,fl,ds,de,by',⟨⟩⟩:=d
       simp only at c1 c8 c9 h23 hb hg hr
       simp only [F46,h23,zE,hb,zK,F62,d0,d1,yE,zH,zu,hg,c8,c9,hr,z7 he,yx,Bool.true_or]
 ·
  rw [hL,look_no hA hB] at hS
  have hm:=seat_no hS
  by_cases h1:d.1=1
  ·obtain ⟨n,e,m',ly',O⟩:=do_one RelS.nil d hs
   obtain ⟨i,hd⟩:=O.did
   obtain ⟨j,hr⟩:=O.ref
   by_cases he:e=0
   ·subst he
    obtain ⟨⟨x,hx⟩,_⟩:=O.keys rfl (by omega) (by omega)
    obtain ⟨u,hu1,hu2⟩:=single O.rel hx List.nodup_nil (.inl rfl)
    subst hu1
    obtain ⟨vn,vv,vl,⟨⟩⟩:=u
    simp only at hu2
    subst hu2
    obtain ⟨L',g1,g2,g3⟩:=R.put (s:=((d.2.1,(vv,(vl,()))),(1,()))) (m:=m') O.rel (by omega)
    simp only [if_true] at hd hr
    refine ⟨n,true,za .str um d.2.1 (some (m',()),(1,())),L',?_,?_,g2,g3,nofun⟩
    ·obtain ⟨dd,du,db,dt,uid,how,fl,ds,de,by',⟨⟩⟩:=d
     simp only at h1 hm hd
     subst h1
     simp only [F42,zH,zK,zS,hm,Option.isSome_none,Option.getD_none,zE,zV,F57,List.map_cons,List.map_nil,hd,yA,Bool.or_self,
      vx,show decide ((0:Int)<((1:Nat):Int))=true by decide,List.getD_cons_zero]
    ·obtain ⟨dd,du,db,dt,uid,how,fl,ds,de,by',⟨⟩⟩:=d
     simp only at h1 h23 hr g1
     subst h1
     simp only [F46,h23,zE,zV,show (false == true)=false by rfl,zK,zH,F62,show decide ((1:Int)=9)=false by decide,show decide ((1:Int)=8)=false by decide,hr,yA,
      vx,show decide (((1:Nat):Int)=1)=true by decide,Bool.or_self,show decide ((0:Int)<((1:Nat):Int))=true by decide,List.getD_cons_zero,g1]
   ·simp only [if_neg he] at hd hr
    refine ⟨0,false,um,L,?_,?_,R,by omega,λ_=>⟨rfl,rfl⟩⟩
    ·obtain ⟨dd,du,db,dt,uid,how,fl,ds,de,by',⟨⟩⟩:=d
     simp only at h1 hm hd
     subst h1
     simp only [F42,zH,zK,zS,hm,Option.isSome_none,Option.getD_none,zE,zV,F57,List.map_cons,List.map_nil,hd,z7 he,yx,Bool.or_true]
    ·obtain ⟨dd,du,db,dt,uid,how,fl,ds,de,by',⟨⟩⟩:=d
     simp only at h1 h23 hr
     subst h1
     simp only [F46,h23,zE,zV,show (false == true)=false by rfl,zK,zH,F62,show decide ((1:Int)=9)=false by decide,show decide ((1:Int)=8)=false by decide,hr,z7 he,yx,Bool.true_or]
  ·have c1:decide (d.1=1)=false:=z7 h1
   refine ⟨0,false,um,L,?_,?_,R,by omega,λ_=>⟨rfl,rfl⟩⟩
   ·obtain ⟨dd,du,db,dt,uid,how,fl,ds,de,by',⟨⟩⟩:=d
    simp only at c1 hm
    by_cases h9:dd=9
    ·simp only [F42,zH,zK,zS,hm,Option.isSome_none,Option.getD_none,zE,c1,zX h9,yx,Bool.true_or]
    ·by_cases h8:dd=8
     ·simp only [F42,zH,zK,zS,hm,Option.isSome_none,Option.getD_none,zE,c1,z7 h9,zX h8]
     ·simp only [F42,zH,zK,zS,hm,Option.isSome_none,Option.getD_none,zE,c1,z7 h9,z7 h8,yx]
   ·obtain ⟨dd,du,db,dt,uid,how,fl,ds,de,by',⟨⟩⟩:=d
    simp only at c1 h23
    simp only [F46,h23,zE,c1,beq_self_eq_true,zH]
abbrev Jb:Type:=List Dd×(Bool×(Bool×Unit))
abbrev x6:Type:=List (Int×Jb)
abbrev noj:Int×Jb:=((0:Int),(([]:List Dd),(false,(false,()))))
abbrev nod:Dd:=((0:Int),(([]:List UInt8),(([]:List UInt8),(([]:List UInt8),((0:Int),((0:Int),((0:UInt8),((0:Int),((0:Int),(([]:List UInt8),()))))))))))
theorem getj_eq {J:x6} {i:Nat} (h:i<J.length):J.getD i noj=J[i]:=by
 rw [xo,List.getElem?_eq_getElem h];rfl
theorem wQ {l:List Dd} {i:Nat} (h:i<l.length):l.getD i nod=l[i]:=by
 rw [xo,List.getElem?_eq_getElem h];rfl
theorem F32_walk (L:List RS) (J:x6) (n:Int) (hl:J.length<=100000000) :
  (∃ i:Nat,i<J.length/\(J.getD i noj).1=n/\(∀ k,k<i->(J.getD k noj).1≠n)/\F32 (((),n,()),((L,J,()),()))=some ((i:Int),((L,J,()),()))) \/
  ((∀ k,k<J.length->(J.getD k noj).1≠n)/\F32 (((),n,()),((L,J,()),()))=some ((-1:Int),((L,J,()),()))):=by
 have hF:=zO
 obtain ⟨r,h1,hr⟩:=yD (f:=B32_0) (p:=(((),n,(0:Int),()),((L,J,()),())))
  (λp=>∃ i:Nat,i<=J.length/\(∀ k,k<i->(J.getD k noj).1≠n)/\p=(((),n,(i:Int),()),((L,J,()),()))) (λp=>J.length-p.1.2.2.1.toNat)
  (λr=>(∃ i:Nat,i<J.length/\(J.getD i noj).1=n/\(∀ k,k<i->(J.getD k noj).1≠n)/\r=.inr (((),(i:Int),()),((L,J,()),())))\/((∀ k,k<J.length->(J.getD k noj).1≠n)/\r=.inl (((),()),((L,J,()),()))))
  (λp ⟨i,hi,hk,hp⟩=>by
   subst hp
   rcases Nat.lt_or_ge i J.length with h | h
   ·have d0:decide ((i:Int)<((J.length:Nat):Int))=true:=zX (by omega)
    have d1:decide ((0:Int)<=(i:Int))=true:=zX (by omega)
    have w1:zZ ((i:Int)+1)=((i+1:Nat):Int):=by rw [zQ (by omega) (by omega)];rfl
    by_cases hb:(J.getD i noj).1=n
    ·right
     refine ⟨_,?_,.inl ⟨i,h,hb,hk,rfl⟩⟩
     simp only [B32_0,d0,d1,yE,zH,zu,zX hb]
    ·left
     refine ⟨(((),n,((i+1:Nat):Int),()),((L,J,()),())),?_,⟨i+1,h,λk hk'=>?_,rfl⟩,by simp only;omega⟩
     ·simp only [B32_0,d0,d1,yE,zH,zu,z7 hb,zK,w1]
     ·rcases Nat.lt_or_ge k i with h' | h'
      ·exact hk k h'
      ·obtain rfl:k=i:=by omega
       exact hb
   ·right
    have d0:decide ((i:Int)<((J.length:Nat):Int))=false:=z7 (by omega)
    exact ⟨_,by simp only [B32_0,d0,zK],.inr ⟨λk hk'=>hk k (by omega),rfl⟩⟩) ⟨0,Nat.zero_le _,λk hk=>absurd hk (by omega),rfl⟩ (by simp only;omega)
 have hL:L32_0 (((),n,(0:Int),()),((L,J,()),()))=some r:=h1
 rcases hr with ⟨i,g1,g2,g3,rfl⟩ | ⟨g1,rfl⟩
 ·exact .inl ⟨i,g1,g2,g3,by simp only [F32,hL,zE]⟩
 ·exact .inr ⟨g1,by simp only [F32,hL,zE]⟩
theorem ki (a b:Int):yf (.int .i64) a b=decide (a=b):=rfl
theorem jget_at:∀ {A B:x6} {n:Int} {j:Jb},(∀ x∈A,x.1≠n)->zG (.int .i64) (A++(n,j)::B) n=some j/\∀ j',za (.int .i64) (A++(n,j)::B) n j'=A++(n,j')::B
 | [],B,n,j,_=>by simp [zG,za,ki]
 | a::A,B,n,j,h=>by
  have ha:decide (a.1=n)=false:=z7 (h a (by simp))
  obtain ⟨h1,h2⟩:=jget_at (A:=A) (B:=B) (j:=j) λx hx=>h x (List.mem_cons_of_mem _ hx)
  refine ⟨?_,λj'=>?_⟩
  ·rw [List.cons_append,zG,ki,ha,zK,h1]
  ·rw [List.cons_append,za,ki,ha,zK,h2 j'];rfl
theorem jget_no:∀ {J:x6} {n:Int},(∀ x∈J,x.1≠n)->zG (.int .i64) J n=none/\∀ j',za (.int .i64) J n j'=J++[(n,j')]
 | [],n,_=>by simp [zG,za]
 | a::A,n,h=>by
  have ha:decide (a.1=n)=false:=z7 (h a (by simp))
  obtain ⟨h1,h2⟩:=jget_no (J:=A) λx hx=>h x (List.mem_cons_of_mem _ hx)
  refine ⟨?_,λj'=>?_⟩
  ·rw [zG,ki,ha,zK,h1]
  ·rw [za,ki,ha,zK,h2 j'];rfl
theorem F32_eq (L:List RS) (J:x6) (n:Int) (hl:J.length<=100000000) :
  (∃ A B j,J=A++(n,j)::B/\zG (.int .i64) J n=some j/\(∀ j',za (.int .i64) J n j'=A++(n,j')::B)/\F32 (((),n,()),((L,J,()),()))=some (((A.length:Nat):Int),((L,J,()),()))) \/
  (zG (.int .i64) J n=none/\F32 (((),n,()),((L,J,()),()))=some ((-1:Int),((L,J,()),()))):=by
 rcases F32_walk L J n hl with ⟨i,h1,h2,h3,h4⟩ | ⟨h1,h2⟩
 ·left
  rw [getj_eq h1] at h2
  have hsp:J=J.take i++(n,J[i].2)::J.drop (i+1):=by
   rw [<- h2]
   show J=J.take i++J[i]::J.drop (i+1)
   rw [<- List.drop_eq_getElem_cons h1,List.take_append_drop]
  have hA:∀ x∈J.take i,x.1≠n:=λx hx=>by
   obtain ⟨k,hk,rfl⟩:=List.mem_take_iff_getElem.1 hx
   have:=h3 k (by omega)
   rwa [getj_eq (by omega)] at this
  obtain ⟨g1,g2⟩:=jget_at (A:=J.take i) (B:=J.drop (i+1)) (j:=J[i].2) hA
  refine ⟨J.take i,J.drop (i+1),J[i].2,hsp,by rw [<- hsp] at g1;exact g1,λj'=>?_,?_⟩
  ·have:=g2 j'
   rwa [<- hsp] at this
  ·rw [h4,yy,Nat.min_eq_left (by omega)]
 ·right
  obtain ⟨g1,_⟩:=jget_no (J:=J) (n:=n) λx hx=>by
   obtain ⟨k,hk,rfl⟩:=List.getElem_of_mem hx
   have:=h1 k hk
   rwa [getj_eq hk] at this
  exact ⟨g1,h2⟩
theorem F33_eq (L:List RS) (A B:x6) (n:Int) (j:Jb) (x:Int×Jb) (hl:(A++(n,j)::B).length<=100000000) :
  F33 (((),((A.length:Nat):Int),(x.1,x.2.1,x.2.2.1,x.2.2.2.1,()),()),((L,A++(n,j)::B,()),()))=some ((),((L,(),()),A++x::B,())):=by
 obtain ⟨xn,xd,x1,x2,⟨⟩⟩:=x
 have d0:decide ((0:Int)<=((A.length:Nat):Int))=true:=zX (by omega)
 have d1:decide (((A.length:Nat):Int)<(((A++(n,j)::B).length:Nat):Int))=true:=zX (by simp<;>omega)
 have b1:zC (([]:x6).length+(A++(n,j)::B).length) 40=true:=zU (by simp only [List.length_nil];omega)
 have hs:(A++(n,j)::B).set A.length (xn,(xd,(x1,(x2,()))))=A++(xn,(xd,(x1,(x2,()))))::B:=by simp
 simp only [F33,b1,zH,List.nil_append,zE,d0,d1,yE,zu,hs]
noncomputable instance:DecidableEq Dd:=λ_ _=>Classical.propDecidable _
theorem F61_eq' (a b:Dd):F61 ((a,b,()),())=some (decide (a=b),()):=by
 obtain ⟨a1,a2,a3,a4,a5,a6,a7,a8,a9,a10,⟨⟩⟩:=a
 obtain ⟨b1,b2,b3,b4,b5,b6,b7,b8,b9,b10,⟨⟩⟩:=b
 simp only [F61,Prod.mk.injEq,and_true,Bool.decide_and,Bool.and_assoc]
def zep (a:Dd):Dd:=(a.1,a.2.1,a.2.2.1,a.2.2.2.1,a.2.2.2.2.1,a.2.2.2.2.2.1,a.2.2.2.2.2.2.1,a.2.2.2.2.2.2.2.1,0,a.2.2.2.2.2.2.2.2.2.1,())
noncomputable def sameX (a b:Dd):Bool:=if a.1=9 then decide (zep a=zep b) else decide (a=b)
theorem F56_eq (a b:Dd):F56 ((a,b,()),())=some (sameX a b,()):=by
 obtain ⟨a1,a2,a3,a4,a5,a6,a7,a8,a9,a10,⟨⟩⟩:=a
 obtain ⟨b1,b2,b3,b4,b5,b6,b7,b8,b9,b10,⟨⟩⟩:=b
 unfold sameX zep
 by_cases h:a1=9
 ·simp only [F56,zX h,zH,zE,F43_eq,if_pos h,Prod.mk.injEq,and_true,Bool.decide_and,Bool.and_assoc,true_and,zV,Bool.and_true]
  cases decide (a1=b1) <;> cases decide (a2=b2) <;> cases decide (a3=b3) <;> cases decide (a4=b4) <;> cases decide (a5=b5) <;> cases decide (a6=b6) <;> cases decide (a7=b7) <;> cases decide (a8=b8) <;> rfl
 ·simp only [F56,z7 h,zK,zE,F43_eq,if_neg h,Prod.mk.injEq,and_true,Bool.decide_and,Bool.and_assoc]
  cases decide (a1=b1) <;> cases decide (a2=b2) <;> cases decide (a3=b3) <;> cases decide (a4=b4) <;> cases decide (a5=b5) <;> cases decide (a6=b6) <;> cases decide (a7=b7) <;> cases decide (a8=b8) <;> cases decide (a9=b9) <;> rfl
theorem F45_eq (a b:List Dd) (hl:a.length<=100000000):F45 ((a,b,()),())=some (decide (a=b),()):=by
 have hF:=zO
 by_cases hlen:a.length=b.length
 ·have d:decide (((a.length:Nat):Int)=((b.length:Nat):Int))=true:=zX (by omega)
  obtain ⟨r,h1,hr⟩:=yD (f:=B45_0) (p:=((a,b,(0:Int),()),()))
   (λp=>∃ i:Nat,i<=a.length/\(∀ k,k<i->a.getD k nod=b.getD k nod)/\p=((a,b,(i:Int),()),())) (λp=>a.length-p.1.2.2.1.toNat)
   (λr=>(r=.inl ((),())/\a=b)\/(r=.inr (((),()),())/\a≠b))
   (λp ⟨i,hi,hk,hp⟩=>by
    subst hp
    rcases Nat.lt_or_ge i a.length with h | h
    ·have d0:decide ((i:Int)<((a.length:Nat):Int))=true:=zX (by omega)
     have d0':decide ((i:Int)<((b.length:Nat):Int))=true:=zX (by omega)
     have d1:decide ((0:Int)<=(i:Int))=true:=zX (by omega)
     have w1:zZ ((i:Int)+1)=((i+1:Nat):Int):=by rw [zQ (by omega) (by omega)];rfl
     have hq:=F61_eq' (a.getD i nod) (b.getD i nod)
     by_cases hb:a.getD i nod=b.getD i nod
     ·left
      refine ⟨((a,b,((i+1:Nat):Int),()),()),?_,⟨i+1,h,λk hk'=>?_,rfl⟩,by simp only;omega⟩
      ·rw [zX hb] at hq
       simp only [B45_0,d0,d0',d1,yE,zH,zu]
       rw [hq]
       simp only [zE,yA,zK,w1]
      ·rcases Nat.lt_or_ge k i with h' | h'
       ·exact hk k h'
       ·obtain rfl:k=i:=by omega
        exact hb
     ·right
      refine ⟨_,?_,.inr ⟨rfl,λe=>hb (by rw [e])⟩⟩
      rw [z7 hb] at hq
      simp only [B45_0,d0,d0',d1,yE,zH,zu]
      rw [hq]
      simp only [zE,yx,zH]
    ·right
     have d0:decide ((i:Int)<((a.length:Nat):Int))=false:=z7 (by omega)
     refine ⟨_,by simp only [B45_0,d0,zK],.inl ⟨rfl,List.ext_getElem hlen λk h1 h2=>?_⟩⟩
     have:=hk k (by omega)
     rwa [wQ h1,wQ h2] at this) ⟨0,Nat.zero_le _,λk hk=>absurd hk (by omega),rfl⟩ (by simp only;omega)
  have hL:L45_0 ((a,b,(0:Int),()),())=some r:=h1
  rcases hr with ⟨rfl,he⟩ | ⟨rfl,he⟩
  ·simp only [F45,d,yA,zK,hL,zE,zX he]
  ·simp only [F45,d,yA,zK,hL,zE,z7 he]
 ·have d:decide (((a.length:Nat):Int)=((b.length:Nat):Int))=false:=z7 (by omega)
  have he:¬ a=b:=λe=>hlen (by rw [e])
  simp only [F45,d,yx,zH,z7 he]
theorem L41_eq (D l:List Dd) (dn an:Bool) (hD:D.length<=12) (hl:D.length<=l.length) :
  L41_0 ((l,(),((D.length:Nat):Int),D,((D.length:Nat):Int),(0:Int),()),((D,dn,an,()),())) =
   some (if ∀ k,k<D.length->sameX (D.getD k nod) (l.getD k nod)=true then .inl ((l,(),((D.length:Nat):Int),()),((D,dn,an,()),())) else .inr (((),()),())):=by
 have hF:=zO
 obtain ⟨r,h1,hr⟩:=yD (f:=B41_0) (p:=((l,(),((D.length:Nat):Int),D,((D.length:Nat):Int),(0:Int),()),((D,dn,an,()),())))
  (λp=>∃ i:Nat,i<=D.length/\(∀ k,k<i->sameX (D.getD k nod) (l.getD k nod)=true)/\p=((l,(),((D.length:Nat):Int),D,((D.length:Nat):Int),(i:Int),()),((D,dn,an,()),()))) (λp=>D.length-p.1.2.2.2.2.2.1.toNat)
  (λr=>r=if ∀ k,k<D.length->sameX (D.getD k nod) (l.getD k nod)=true then .inl ((l,(),((D.length:Nat):Int),()),((D,dn,an,()),())) else .inr (((),()),()))
  (λp ⟨i,hi,hk,hp⟩=>by
   subst hp
   rcases Nat.lt_or_ge i D.length with h | h
   ·have d0:decide ((i:Int)<((D.length:Nat):Int))=true:=zX (by omega)
    have d0':decide ((i:Int)<((l.length:Nat):Int))=true:=zX (by omega)
    have d1:decide ((0:Int)<=(i:Int))=true:=zX (by omega)
    have w1:zZ ((i:Int)+1)=((i+1:Nat):Int):=by rw [zQ (by omega) (by omega)];rfl
    have hq:=F56_eq (D.getD i nod) (l.getD i nod)
    cases hb:sameX (D.getD i nod) (l.getD i nod) with
    | true =>
     left
     refine ⟨((l,(),((D.length:Nat):Int),D,((D.length:Nat):Int),((i+1:Nat):Int),()),((D,dn,an,()),())),?_,⟨i+1,h,λk hk'=>?_,rfl⟩,by simp only;omega⟩
     ·rw [hb] at hq
      simp only [B41_0,d0,d0',d1,yE,zH,zu,zE]
      rw [hq]
      simp only [zE,yA,zK,w1]
     ·rcases Nat.lt_or_ge k i with h' | h'
      ·exact hk k h'
      ·obtain rfl:k=i:=by omega
       exact hb
    | false =>
     right
     refine ⟨_,?_,rfl⟩
     rw [if_neg λhh=>by rw [hh i h] at hb;cases hb]
     rw [hb] at hq
     simp only [B41_0,d0,d0',d1,yE,zH,zu,zE]
     rw [hq]
     simp only [zE,yx,zH]
   ·right
    have d0:decide ((i:Int)<((D.length:Nat):Int))=false:=z7 (by omega)
    refine ⟨_,?_,rfl⟩
    rw [if_pos λk hk'=>hk k (by omega)]
    simp only [B41_0,d0,zK]) ⟨0,Nat.zero_le _,λk hk=>absurd hk (by omega),rfl⟩ (by simp only;omega)
 have hL:L41_0 ((l,(),((D.length:Nat):Int),D,((D.length:Nat):Int),(0:Int),()),((D,dn,an,()),()))=some r:=h1
 rw [hL,hr]
structure JobOK (D:List Dd):Prop where
 some':1<=D.length
 few:D.length<=12
 alone:∀ d∈D,d.1=9->D.length=1
def uE (D l:List Dd):Prop:=if (D.getD 0 nod).1=9 then (∃ b e,l=[b,e]/\zep (D.getD 0 nod)=zep b/\e.1=8/\e.2.1=b.2.1/\e.2.2.2.2.2.2.2.2.1=b.2.2.2.2.2.2.2.2.1) else D=l
theorem F41_eq {D:List Dd} (hD:JobOK D) (l:List Dd) (dn an:Bool) (hl:l.length<=100000000):∃ q,F41 (((D,dn,an,()),l,()),())=some (q,())/\(q=true<->uE D l):=by
 have h1:=hD.some'
 have h2:=hD.few
 by_cases hlt:l.length<D.length
 ·refine ⟨false,?_,?_⟩
  ·have d:decide (((l.length:Nat):Int)<((D.length:Nat):Int))=true:=zX (by omega)
   simp only [F41,d,zH]
  ·constructor
   ·nofun
   ·intro hf
    exfalso
    unfold uE at hf
    split at hf
    ·next h9 =>
     obtain ⟨b,e,rfl,_⟩:=hf
     rw [wQ (by omega)] at h9
     have:=hD.alone _ (List.getElem_mem (by omega)) h9
     simp only [List.length_cons,List.length_nil] at hlt
     omega
    ·rw [hf] at hlt;omega
 ·have d:decide (((l.length:Nat):Int)<((D.length:Nat):Int))=false:=z7 (by omega)
  have e:=L41_eq D l dn an h2 (by omega)
  have p0:decide ((0:Int)<((D.length:Nat):Int))=true:=zX (by omega)
  by_cases hall:∀ k,k<D.length->sameX (D.getD k nod) (l.getD k nod)=true
  ·rw [if_pos hall] at e
   by_cases h9:(D.getD 0 nod).1=9
   ·have hD1:D.length=1:=hD.alone (D.getD 0 nod) (by rw [wQ (by omega)];exact List.getElem_mem _) h9
    have h0:=hall 0 (by omega)
    unfold sameX at h0
    rw [if_pos h9,decide_eq_true_iff] at h0
    obtain ⟨a,rfl⟩:=List.length_eq_one_iff.1 hD1
    have c9:decide ((List.getD [a] 0 nod).1=9)=true:=zX h9
    match l,hlt,h0,e,d with
    | [],hlt,_,_,_=>simp at hlt
    | [b],_,_,e,d =>
     refine ⟨false,?_,?_⟩
     ·have q2:decide ((([b].length:Nat):Int)=2)=false:=rfl
      simp only [F41,d,zK,e,zE,p0,zH,c9,yA,q2,yx,Bool.or_true,Bool.false_and]
     ·constructor
      ·nofun
      ·intro hf;unfold uE at hf;rw [if_pos h9] at hf;obtain ⟨_,_,hh,_⟩:=hf;simp at hh
    | [b,c],_,h0,e,d =>
     refine ⟨((decide (c.1=8)&&decide (c.2.1=b.2.1))&&decide (c.2.2.2.2.2.2.2.2.1=b.2.2.2.2.2.2.2.2.1)),?_,?_⟩
     ·have q2:decide ((([b,c].length:Nat):Int)=2)=true:=rfl
      have q1:decide ((1:Int)<(([b,c].length:Nat):Int))=true:=rfl
      have q0:decide ((0:Int)<(([b,c].length:Nat):Int))=true:=rfl
      have c9':decide (a.1=9)=true:=c9
      simp only [F41,d,zK,e,zE,p0,zH,c9',yA,q0,q1,q2,Bool.true_or,Bool.true_and,List.getD_cons_zero,List.getD_cons_succ]
     ·simp only [yo,xh]
      unfold uE
      rw [if_pos h9]
      constructor
      ·exact λ⟨⟨g1,g2⟩,g3⟩=>⟨b,c,rfl,h0,g1,g2,g3⟩
      ·rintro ⟨b',c',hh,_,g1,g2,g3⟩
       simp only [List.cons.injEq,and_true] at hh
       obtain ⟨rfl,rfl⟩:=hh
       exact ⟨⟨g1,g2⟩,g3⟩
    | b::c::x::t,_,_,e,d =>
     have q2:decide ((((b::c::x::t).length:Nat):Int)=2)=false:=z7 (by simp only [List.length_cons];omega)
     refine ⟨false,?_,?_⟩
     ·simp only [F41,d,zK,e,zE,p0,zH,c9,yA,q2,yx,Bool.or_true,Bool.false_and]
     ·constructor
      ·nofun
      ·intro hf;unfold uE at hf;rw [if_pos h9] at hf;obtain ⟨_,_,hh,_⟩:=hf;simp at hh
   ·have c9:decide ((D.getD 0 nod).1=9)=false:=z7 h9
    refine ⟨decide (((l.length:Nat):Int)=((D.length:Nat):Int)),?_,?_⟩
    ·simp only [F41,d,zK,e,zE,p0,zH,c9,yx]
    ·unfold uE
     rw [if_neg h9,decide_eq_true_iff]
     constructor
     ·intro hle
      refine List.ext_getElem (by omega) λk g1 g2=>?_
      have hk:=hall k g1
      unfold sameX at hk
      rw [wQ g1,wQ g2] at hk
      split at hk
      ·next h9' =>
       have:=hD.alone _ (List.getElem_mem g1) h9'
       exfalso
       obtain rfl:k=0:=by omega
       rw [wQ g1] at h9
       exact h9 h9'
      ·exact of_decide_eq_true hk
     ·intro hh;rw [hh]
  ·rw [if_neg hall] at e
   refine ⟨false,by simp only [F41,d,zK,e,zE],?_⟩
   constructor
   ·nofun
   ·intro hf
    exfalso
    apply hall
    unfold uE at hf
    split at hf
    ·next h9 =>
     obtain ⟨b,c,rfl,hz,_⟩:=hf
     intro k hk
     have hD1:D.length=1:=hD.alone (D.getD 0 nod) (by rw [wQ (by omega)];exact List.getElem_mem _) h9
     obtain rfl:k=0:=by omega
     unfold sameX
     rw [if_pos h9]
     exact zX hz
    ·intro k hk
     rw [hf]
     unfold sameX
     split <;> exact zX rfl
theorem loops {σ τ σ' τ':Type} {f:σ->Option (σ⊕τ)} {g:σ'->Option (σ'⊕τ')} (R:σ->σ'->Prop) (μ:σ->Nat) (T:τ->τ'->Prop)
  (h:∀ p q,R p q->(∃ p' q',f p=some (.inl p')/\g q=some (.inl q')/\R p' q'/\μ p'<μ p)\/∃ r s,f p=some (.inr r)/\g q=some (.inr s)/\T r s) {p:σ} {q:σ'} (hR:R p q) (hμ:μ p<FUEL) :
  ∃ r s,zR f p=some r/\zR g q=some s/\T r s:=by
 have key:∀ n p q,R p q->μ p<n->∃ r s,iter f n p=some r/\iter g n q=some s/\T r s:=by
  intro n
  induction n with
  | zero=>intro p q _ h0;omega
  | succ n ih =>
   intro p q hR hn
   rcases h p q hR with ⟨p',q',h1,h2,h3,h4⟩ | ⟨r,s,h1,h2,h3⟩
   ·obtain ⟨r,s,g1,g2,g3⟩:=ih p' q' h3 (by omega)
    exact ⟨r,s,by simp only [iter,h1,g1],by simp only [iter,h2,g2],g3⟩
   ·exact ⟨r,s,by simp only [iter,h1],by simp only [iter,h2],h3⟩
 exact key FUEL p q hR hμ
theorem foldS_anyF {α τ:Type} (b:α->Bool) (r z:τ):∀ l:List α,zd (λa (_:Unit)=>(cond (b a) (.inr r) (.inl ()):Unit⊕τ)) (λ_=>z) () l=cond (l.any b) r z
 | []=>rfl
 | a::t=>by
  simp only [zd,List.any_cons]
  cases h:b a with
  | true=>rfl
  | false=>simp only [zK,Bool.false_or];exact foldS_anyF b r z t
theorem F54_big (l:List UInt8) (h:l.length<=1050000):F54 ((l,()),())=some ((),(l,())):=by
 have hb:zC (0+l.length) 1=true:=zU (by omega)
 cases l with
 | nil=>simp only [F54,List.isEmpty_nil,zH,hb,List.append_nil,zS]
 | cons a t=>simp only [F54,List.isEmpty_cons,zK,hb,zH,List.nil_append]
abbrev btz (d:Dd):List UInt8:=d.2.2.2.2.2.2.2.2.2.1
theorem F55_eq (l:List Dd) (h:l.length<=100):F55 ((l,()),())=some ((),(l.map λx=>(false,x),())):=by
 have hb:zC (([]:List (Bool×Dd)).length+(l.map λx=>(false,x)).length) 120=true:=zU (by simp<;>omega)
 cases l with
 | nil=>simp only [F55,List.isEmpty_nil,zH,List.map_nil,List.append_nil,List.length_nil,show zC (0+0) 120=true by rfl,zS]
 | cons a t=>simp only [F55,List.isEmpty_cons,zK,hb,zH,List.nil_append]
def mark (l:List Dd) (i:Nat):List (Bool×Dd):=(l.take i).map (λx=>(true,x))++(l.drop i).map λx=>(false,x)
theorem mark_len (l:List Dd) (i:Nat):(mark l i).length=l.length:=by
 simp only [mark,yS,List.length_map,yy,u0];omega
theorem mark_step {l:List Dd} {i:Nat} (h:i<l.length):(mark l i).getD i (true,nod)=(false,l[i])/\(mark l i).set i (true,l[i])=mark l (i+1):=by
 have hd:l.drop i=l[i]::l.drop (i+1):=List.drop_eq_getElem_cons h
 have hlen:((l.take i).map λx=>((true,x):Bool×Dd)).length=i:=by simp;omega
 have ht:l.take (i+1)=l.take i++[l[i]]:=by rw [List.take_succ_eq_append_getElem h]
 unfold mark
 rw [hd,List.map_cons]
 constructor
 ·rw [xo,List.getElem?_append_right (by omega),hlen,Nat.sub_self];rfl
 ·rw [List.set_append_right _ _ (by omega),hlen,Nat.sub_self,List.set_cons_zero,ht,List.map_append,lAs];rfl
theorem F40_eq (l:List Dd) (hl:l.length<=100) (hb:∀ d∈l,(btz d).length<=1050000):F40 ((l,()),())=some ((),(l,())):=by
 have hF:=zO
 have e55:=F55_eq l hl
 obtain ⟨r,h1,rfl⟩:=yD (f:=B40_0) (p:=(((),((l.length:Nat):Int),(0:Int),()),(mark l 0,())))
  (λp=>∃ i:Nat,i<=l.length/\p=(((),((l.length:Nat):Int),(i:Int),()),(mark l i,()))) (λp=>l.length-p.1.2.2.1.toNat)
  (λr=>r=(((),()),(l.map (λx=>(true,x)),())))
  (λp ⟨i,hi,hp⟩=>by
   subst hp
   rcases Nat.lt_or_ge i l.length with h | h
   ·left
    have d0:decide ((i:Int)<((l.length:Nat):Int))=true:=zX (by omega)
    have d1:decide ((0:Int)<=(i:Int))=true:=zX (by omega)
    have d2:decide ((i:Int)<(((mark l i).length:Nat):Int))=true:=zX (by rw [mark_len];omega)
    have w1:zZ ((i:Int)+1)=((i+1:Nat):Int):=by rw [zQ (by omega) (by omega)];rfl
    obtain ⟨m1,m2⟩:=mark_step h
    have e54:=F54_big (btz l[i]) (hb _ (List.getElem_mem h))
    refine ⟨(((),((l.length:Nat):Int),((i+1:Nat):Int),()),(mark l (i+1),())),?_,⟨i+1,h,rfl⟩,by simp only;omega⟩
    have hm1:(mark l i).getD i (true,((0:Int),(([]:List UInt8),(([]:List UInt8),(([]:List UInt8),((0:Int),((0:Int),((0:UInt8),((0:Int),((0:Int),(([]:List UInt8),()))))))))))) =(false,l[i]):=m1
    simp only [B40_0,d0,d1,d2,yE,zH,zu,hm1,e54,zE,w1]
    rw [<- m2]
   ·right
    have d0:decide ((i:Int)<((l.length:Nat):Int))=false:=z7 (by omega)
    have:i=l.length:=by omega
    refine ⟨(((),()),(mark l i,())),by simp only [B40_0,d0,zK],?_⟩
    rw [this]
    simp [mark]) ⟨0,Nat.zero_le _,rfl⟩ (by simp only;omega)
 have hL:L40_0 (((),((l.length:Nat):Int),(0:Int),()),(l.map (λx=>(false,x)),()))=some (((),()),(l.map (λx=>(true,x)),())):=by
  have:mark l 0=l.map λx=>(false,x):=by simp [mark]
  rw [this] at h1
  exact h1
 have hall:(l.map λx=>((true,x):Bool×Dd)).all (λp=>p.1)=true:=by simp
 have hsnd:(l.map λx=>((true,x):Bool×Dd)).map (λp=>p.2)=l:=by rw [List.map_map];exact List.map_id _
 simp only [F40,e55,zE,List.length_map,hL,hall,zH,hsnd]
abbrev Mk:Type:=Int×Int×Int×Int×Int×Int×List Dd×List Int×Tx×List UInt8×Int×Unit
structure JOK (J:x6) (last:Int):Prop where
 rise:J.Pairwise λa b=>a.1<b.1
 top:∀ x∈J,x.1<=last
 end':(J=[]/\last=0)\/∃ A j,J=A++[j]/\last=j.1
 pos:0<=last
 each:∀ x∈J,JobOK x.2.1
theorem JOK.nil:JOK [] 0:=⟨List.Pairwise.nil,nofun,.inl ⟨rfl,rfl⟩,Int.le_refl _,nofun⟩
theorem JOK.set {A B:x6} {n last:Int} {j j':Jb} (h:JOK (A++(n,j)::B) last) (hj:JobOK j'.1):JOK (A++(n,j')::B) last:=by
 obtain ⟨h1,h2,h3,h4,h5⟩:=h
 obtain ⟨p1,p2,p3⟩:=List.pairwise_append.1 h1
 obtain ⟨p4,p5⟩:=List.pairwise_cons.1 p2
 refine ⟨List.pairwise_append.2 ⟨p1,List.pairwise_cons.2 ⟨λx hx=>p4 x hx,p5⟩,λa ha b hb=>?_⟩,λx hx=>?_,?_,h4,λx hx=>?_⟩
 ·rcases List.mem_cons.1 hb with rfl | hb
  ·exact p3 a ha (n,j) (by simp)
  ·exact p3 a ha b (List.mem_cons_of_mem _ hb)
 ·rcases List.mem_append.1 hx with hx | hx
  ·exact h2 x (List.mem_append_left _ hx)
  ·rcases List.mem_cons.1 hx with rfl | hx
   ·exact h2 (n,j) (by simp)
   ·exact h2 x (by simp [hx])
 ·right
  rcases h3 with ⟨h3,_⟩ | ⟨C,k,h3,h6⟩
  ·simp at h3
  ·rcases List.eq_nil_or_concat B with rfl | ⟨B',b,rfl⟩
   ·have:=List.append_inj' h3 rfl
    have h8:(n,j)=k:=by simpa using this.2
    exact ⟨A,(n,j'),rfl,by rw [h6,<- h8]⟩
   ·refine ⟨A++(n,j')::B',b,by simp,?_⟩
    have h7:(A++(n,j)::B')++[b]=C++[k]:=by rw [<- h3];simp
    have:=(List.append_inj' h7 rfl).2
    simp only [List.cons.injEq,and_true] at this
    rw [h6,this]
 ·rcases List.mem_append.1 hx with hx | hx
  ·exact h5 x (List.mem_append_left _ hx)
  ·rcases List.mem_cons.1 hx with rfl | hx
   ·exact hj
   ·exact h5 x (by simp [hx])
structure Took (um:Um) (J:x6) (last:Int) (L:List RS) (m:Mk) (e:Int) (um':Um) (J':x6) (last':Int) (L':List RS):Prop where
 did:F15 ((true,m,()),(((),(),last,()),um,J,()))=some (e,(((),(),last',()),um',J',()))
 ref:F16 (((),m,()),((L,J,()),()))=some (e,((L',J',()),()))
 rel:RelF um' L'
 jobs:JOK J' last'
 len:L'.length<=L.length+12
 jlen:J'.length<=J.length+1
structure SmM (m:Mk):Prop where
 deeds:m.2.2.2.2.2.2.1.length<=1050000
 each:∀ d∈m.2.2.2.2.2.2.1,Small3 d
 btz:∀ d∈m.2.2.2.2.2.2.1,(btz d).length<=1050000
 nums:m.2.2.2.2.2.2.2.1.length<=1050000
theorem wish_both {um:Um} {J:x6} {last:Int} {L:List RS} (_R:RelF um L) (K:JOK J last) (m:Mk) (S:SmM m) (hJ:J.length<=10000000) (hs:m.1=1) :
  ∃ e J' last',F27 ((true,m,()),(((),(),last,()),um,J,()))=some (e,(((),(),last',()),um,J',()))/\F16 (((),m,()),((L,J,()),()))=some (e,((L,J',()),()))/\JOK J' last'/\J'.length<=J.length+1:=by
 have hF:=zO
 obtain ⟨sg,n,cn,tn,tb,tt,D,N,us,by',er,⟨⟩⟩:=m
 obtain ⟨s1,s2,s3,s4⟩:=S
 simp only at s1 s2 s3 s4 hs
 subst hs
 have hpos:=K.pos
 have hlast:(decide (0<((J.length:Nat):Int))&&decide (n<=(J.getD (Int.toNat (zZ (((J.length:Nat):Int)-1))) noj).1))=(decide (n<=last)&&decide (J≠[])):=by
  rcases K.end' with ⟨rfl,_⟩ | ⟨A,j,rfl,h2⟩
  ·simp
  ·have w:zZ ((((A++[j]).length:Nat):Int)-1)=((A.length:Nat):Int):=by
    rw [yS,vx,zQ (by omega) (by simp only [yS,vx] at hJ;omega)];omega
   have g:(A++[j]).getD A.length noj=j:=by simp
   rw [w,zu,g,h2]
   simp
 have hin:((decide ((0:Int)<=zZ (((J.length:Nat):Int)-1))&&decide (zZ (((J.length:Nat):Int)-1)<((J.length:Nat):Int)))||!(decide ((0:Int)<((J.length:Nat):Int))&&!decide (n<1)))=true:=by
  have w:zZ (((J.length:Nat):Int)-1)=((J.length:Nat):Int)-1:=zQ (by omega) (by omega)
  rw [w]
  rcases Nat.eq_zero_or_pos J.length with h | h
  ·simp [h]
  ·simp;left;omega
 have hor:(decide (n<1)||(decide (0<((J.length:Nat):Int))&&decide (n<=(J.getD (Int.toNat (zZ (((J.length:Nat):Int)-1))) noj).1)))=(decide (n<1)||decide (n<=last)):=by
  rw [hlast]
  rcases K.end' with ⟨rfl,h2⟩ | ⟨A,j,rfl,h2⟩
  ·rw [h2]
   by_cases hn:n<1
   ·simp [hn]
   ·simp [hn];omega
  ·simp
 by_cases hbad:(decide (n<1)||decide (n<=last))=true
 ·refine ⟨2,J,last,?_,?_,K,by omega⟩
  ·simp only [F27,Bool.true_or,zH,hbad]
  ·simp only [F16,zV,zH,hin]
   rw [hor,hbad]
   simp only [zH]
 ·have hbad':(decide (n<1)||decide (n<=last))=false:=by simpa using hbad
  by_cases hlen:D.length=0\/12<D.length
  ·refine ⟨4,J,last,?_,?_,K,by omega⟩
   ·have c:(decide (((D.length:Nat):Int)=0)||decide ((12:Int)<((D.length:Nat):Int)))=true:=by
     rcases hlen with h | h
     ·simp [h]
     ·have:decide ((12:Int)<((D.length:Nat):Int))=true:=zX (by omega)
      rw [this,Bool.or_true]
    simp only [F27,Bool.true_or,zH,hbad',zK,c]
   ·have c:(decide (((D.length:Nat):Int)<1)||decide ((12:Int)<((D.length:Nat):Int)))=true:=by
     rcases hlen with h | h
     ·simp [h]
     ·have:decide ((12:Int)<((D.length:Nat):Int))=true:=zX (by omega)
      rw [this,Bool.or_true]
    simp only [F16,zV,zH,hin]
    rw [hor,hbad']
    simp only [zK,c,zH]
  ·rw [not_or] at hlen
   have c1:(decide (((D.length:Nat):Int)=0)||decide ((12:Int)<((D.length:Nat):Int)))=false:=by
    rw [z7 (by omega),z7 (by omega)];rfl
   have c2:(decide (((D.length:Nat):Int)<1)||decide ((12:Int)<((D.length:Nat):Int)))=false:=by
    rw [z7 (by omega),z7 (by omega)];rfl
   let bad:Dd->Bool:=λd=>decide (d.1=8)||(decide (d.1=9)&&decide ((1:Int)<((D.length:Nat):Int)))
   have e27:L27_0 ((true,(),D,((D.length:Nat):Int),(0:Int),()),(((),(),last,()),um,J,((1:Int),n,cn,tn,tb,tt,D,N,us,by',er,()),())) =
     some (cond (D.any bad) (.inr ((true,(),()),(((),(),last,()),um,J,()))) (.inl ((true,(),()),(((),(),last,()),um,J,((1:Int),n,cn,tn,tb,tt,D,N,us,by',er,()),())))):=by
    unfold L27_0
    rw [<- foldS_anyF]
    refine yi (f:=B27_0) (λ(_:Unit) i=>((true,(),D,((D.length:Nat):Int),(i:Int),()),(((),(),last,()),um,J,((1:Int),n,cn,tn,tb,tt,D,N,us,by',er,()),()))) D _ _ (λb i a hi ha=>?_) (λb=>?_) (by omega)
    ·have d0:decide ((i:Int)<((D.length:Nat):Int))=true:=zX (by omega)
     have d1:decide ((0:Int)<=(i:Int))=true:=zX (by omega)
     have w1:zZ ((i:Int)+1)=((i+1:Nat):Int):=by rw [zQ (by omega) (by omega)];rfl
     simp only [B27_0,d0,d1,yE,zH,zu,ha,zE,w1]
     show cond (bad a) _ _=_
     cases bad a <;> rfl
    ·simp only [B27_0,Int.lt_irrefl,yu,zK]
   have hbe:∀ d:Dd,(decide (d.1=8)||(decide (d.1=9)&&!decide (((D.length:Nat):Int)=1)))=bad d:=λd=>by
    have:(!decide (((D.length:Nat):Int)=1))=decide ((1:Int)<((D.length:Nat):Int)):=by
     by_cases h:D.length=1
     ·simp [h]
     ·rw [z7 (by omega),zX (by omega)];rfl
    rw [this]
   have e16:L16_0 (((),(),(0:Int),()),((L,J,()),((1:Int),n,cn,tn,tb,tt,D,N,us,by',er,()),())) =
     some (cond (D.any bad) (.inr (((),(),()),((L,J,()),()))) (.inl (((),(),()),((L,J,()),((1:Int),n,cn,tn,tb,tt,D,N,us,by',er,()),())))):=by
    unfold L16_0
    rw [<- foldS_anyF]
    refine yi (f:=B16_0) (λ(_:Unit) i=>(((),(),(i:Int),()),((L,J,()),((1:Int),n,cn,tn,tb,tt,D,N,us,by',er,()),()))) D _ _ (λb i a hi ha=>?_) (λb=>?_) (by omega)
    ·have d0:decide ((i:Int)<((D.length:Nat):Int))=true:=zX (by omega)
     have d1:decide ((0:Int)<=(i:Int))=true:=zX (by omega)
     have w1:zZ ((i:Int)+1)=((i+1:Nat):Int):=by rw [zQ (by omega) (by omega)];rfl
     simp only [B16_0,d0,d1,yE,Bool.true_or,zH,zu,ha,w1,hbe]
     cases bad a <;> rfl
    ·simp only [B16_0,Int.lt_irrefl,yu,zK]
   cases hb:D.any bad with
   | true =>
    rw [hb,zH] at e27 e16
    refine ⟨4,J,last,?_,?_,K,by omega⟩
    ·simp only [F27,Bool.true_or,zH,hbad',zK,c1,e27,zE]
    ·simp only [F16,zV,zH,hin]
     rw [hor,hbad']
     simp only [zK,c2,e16,zE]
   | false =>
    rw [hb,zK] at e27 e16
    have hD:JobOK D:=⟨by omega,by omega,λd hd h9=>by
     have hbd:=List.any_eq_false.1 hb d hd
     have c9:decide (d.1=9)=true:=zX h9
     have h8:decide (d.1=8)=false:=z7 (by omega)
     simp only [bad,h8,c9,Bool.false_or,Bool.true_and,xh] at hbd
     omega⟩
    have e40:=F40_eq D (by omega) s3
    have e161:L16_1 (((),(),(),(0:Int),()),((L,J,()),((1:Int),n,cn,tn,tb,tt,D,N,us,by',er,()),([]:List Dd),()))=some (((),(),(),()),((L,J,()),((1:Int),n,cn,tn,tb,tt,D,N,us,by',er,()),D,())):=by
     unfold L16_1
     refine (zq (f:=B16_1) (λ(o:List Dd) i=>(((),(),(),(i:Int),()),((L,J,()),((1:Int),n,cn,tn,tb,tt,D,N,us,by',er,()),o,()))) D (λa o=>.inl (o++[a])) (λo=>(((),(),(),()),((L,J,()),((1:Int),n,cn,tn,tb,tt,D,N,us,by',er,()),o,())))
      (λo i=>o.length<=i) (λo i a hI hi ha=>?_) (λo _=>?_) (by omega) (b:=[]) (by simp)).trans ?_
     ·have hm:a∈D:=by
       have:=ha nod
       rw [wQ hi] at this
       rw [<- this]
       exact List.getElem_mem hi
      have hba:=s3 a hm
      refine .inl ⟨_,rfl,by rw [yS,vx];omega,?_⟩
      obtain ⟨a1,a2,a3,a4,a5,a6,a7,a8,a9,a10,⟨⟩⟩:=a
      have d0:decide ((i:Int)<((D.length:Nat):Int))=true:=zX (by omega)
      have d1:decide ((0:Int)<=(i:Int))=true:=zX (by omega)
      have w1:zZ ((i:Int)+1)=((i+1:Nat):Int):=by rw [zQ (by omega) (by omega)];rfl
      have hba':a10.length<=1050000:=hba
      have b1:zC (0+a10.length) 1=true:=zU (by omega)
      have b2:zC (o.length+[(a1,(a2,(a3,(a4,(a5,(a6,(a7,(a8,(a9,(a10,()))))))))))].length) 120=true:=zU (by simp only [vx];omega)
      have ha':=ha nod
      simp only [B16_1,d0,d1,yE,zH,zu,ha',zE,b1,List.nil_append,b2,w1]
     ·simp only [B16_1,Int.lt_irrefl,yu,zK]
     ·have:∀ (l o:List Dd),zd (λ(a:Dd) (o:List Dd)=>(.inl (o++[a]):List Dd⊕_)) (λo=>(((),(),(),()),((L,J,()),((1:Int),n,cn,tn,tb,tt,D,N,us,by',er,()),o,()))) o l=(((),(),(),()),((L,J,()),((1:Int),n,cn,tn,tb,tt,D,N,us,by',er,()),o++l,())):=λl=>by
       induction l with
       | nil=>intro o;simp [zd]
       | cons a t ih=>intro o;simp only [zd];rw [ih];simp
      rw [this,List.nil_append]
    rw [Bool.or_eq_false_iff] at hbad'
    have hn1:1<=n:=by have:=of_decide_eq_false hbad'.1;omega
    have hnl:last<n:=by have:=of_decide_eq_false hbad'.2;omega
    obtain ⟨_,hset⟩:=jget_no (J:=J) (n:=n) λx hx=>by have:=K.top x hx;omega
    refine ⟨0,J++[(n,(D,(false,(false,()))))],n,?_,?_,⟨List.pairwise_append.2 ⟨K.rise,List.pairwise_singleton _ _,λa ha b hb'=>?_⟩,λx hx=>?_,.inr ⟨J,_,rfl,rfl⟩,by omega,λx hx=>?_⟩,by simp⟩
    ·simp only [F27,Bool.true_or,zH,hbad',Bool.or_self,zK,c1,e27,zE,e40,hset]
    ·have b1:zC (([]:x6).length+J.length) 40=true:=zU (by simp only [List.length_nil];omega)
     have b2:zC (J.length+[(n,(D,(false,(false,()))))].length) 40=true:=zU (by simp only [vx];omega)
     simp only [F16,zV,zH,hin]
     rw [hor,hbad'.1,hbad'.2]
     simp only [Bool.or_self,zK,c2,e16,zE,e161,b1,zH,List.nil_append,b2,zS]
    ·rw [List.mem_singleton.1 hb']
     have:=K.top a ha
     show a.1<n
     omega
    ·rcases List.mem_append.1 hx with hx | hx
     ·have:=K.top x hx;omega
     ·rw [List.mem_singleton.1 hx];exact Int.le_refl _
    ·rcases List.mem_append.1 hx with hx | hx
     ·exact K.each x hx
     ·rw [List.mem_singleton.1 hx];exact hD
theorem runs_both {um:Um} {L:List RS} (R:RelF um L) (J:x6) (last:Int) (m:Mk) (S:SmM m) (j3:Jb) (j4:Int×Jb) (ix:Int) (h12:m.2.2.2.2.2.2.1.length<=12) (hN:m.2.2.2.2.2.2.2.1.length=m.2.2.2.2.2.2.1.length) (hL:L.length<=90000000) :
    ∃ r s,L28_0 ((true,(),(),true,m.2.2.2.2.2.2.1,((m.2.2.2.2.2.2.1.length:Nat):Int),(0:Int),()),(((),(),last,()),um,J,m,(j3.1,j3.2.1,j3.2.2.1,()),((),(),last,()),um,J,()))=some r /\
      L31_0 (((),(),ix,(),L,(0:Int),()),((L,J,()),m,(j4.1,j4.2.1,j4.2.2.1,j4.2.2.2.1,()),()))=some s /\
      ((r=.inr ((true,(),()),(((),(),last,()),um,J,()))/\s=.inr (((),(),()),((L,J,()),()))) \/
       ∃ um' L',r=.inl ((true,(),(),true,()),(((),(),last,()),um,J,m,(j3.1,j3.2.1,j3.2.2.1,()),((),(),last,()),um',J,())) /\
         s=.inl (((),ix,(),L',()),((L,J,()),(j4.1,j4.2.1,j4.2.2.1,j4.2.2.2.1,()),()))/\RelF um' L'/\L'.length<=L.length+12):=by
  have hF:=zO
  obtain ⟨sg,n,cn,tn,tb,tt,D,N,us,by',er,⟨⟩⟩:=m
  obtain ⟨s1,s2,s3,s4⟩:=S
  simp only at s1 s2 s3 s4 h12 hN
  unfold L28_0 L31_0
  refine loops (f:=B28_0) (g:=B31_0)
    (p:=((true,(),(),true,D,((D.length:Nat):Int),(0:Int),()),(((),(),last,()),um,J,(sg,n,cn,tn,tb,tt,D,N,us,by',er,()),(j3.1,j3.2.1,j3.2.2.1,()),((),(),last,()),um,J,())))
    (q:=(((),(),ix,(),L,(0:Int),()),((L,J,()),(sg,n,cn,tn,tb,tt,D,N,us,by',er,()),(j4.1,j4.2.1,j4.2.2.1,j4.2.2.2.1,()),())))
    (λp q=>∃ (i:Nat) (um':Um) (L':List RS),i<=D.length/\RelF um' L'/\L'.length<=L.length+i /\
      p=((true,(),(),true,D,((D.length:Nat):Int),(i:Int),()),(((),(),last,()),um,J,(sg,n,cn,tn,tb,tt,D,N,us,by',er,()),(j3.1,j3.2.1,j3.2.2.1,()),((),(),last,()),um',J,())) /\
      q=(((),(),ix,(),L',(i:Int),()),((L,J,()),(sg,n,cn,tn,tb,tt,D,N,us,by',er,()),(j4.1,j4.2.1,j4.2.2.1,j4.2.2.2.1,()),())))
    (λp=>D.length-p.1.2.2.2.2.2.2.1.toNat)
    (λr s=>(r=.inr ((true,(),()),(((),(),last,()),um,J,()))/\s=.inr (((),(),()),((L,J,()),()))) \/
       ∃ um' L',r=.inl ((true,(),(),true,()),(((),(),last,()),um,J,(sg,n,cn,tn,tb,tt,D,N,us,by',er,()),(j3.1,j3.2.1,j3.2.2.1,()),((),(),last,()),um',J,())) /\
         s=.inl (((),ix,(),L',()),((L,J,()),(j4.1,j4.2.1,j4.2.2.1,j4.2.2.2.1,()),()))/\RelF um' L'/\L'.length<=L.length+12)
    (λp q ⟨i,um',L',hi,R',hl,hp,hq⟩=>?_) ⟨0,um,L,Nat.zero_le _,R,Nat.le_refl _,rfl,rfl⟩ (by simp only;omega)
  subst hp hq
  rcases Nat.lt_or_ge i D.length with h | h
  . have d0:decide ((i:Int)<((D.length:Nat):Int))=true:=zX (by omega)
    have d1:decide ((0:Int)<=(i:Int))=true:=zX (by omega)
    have d2:decide ((i:Int)<((N.length:Nat):Int))=true:=zX (by omega)
    have w1:zZ ((i:Int)+1)=((i+1:Nat):Int):=by rw [zQ (by omega) (by omega)];rfl
    obtain ⟨k,ok,um2,L2,O⟩:=one_both R' J last D[i] (s2 _ (List.getElem_mem h)) (by omega)
    have hg:D.getD i nod=D[i]:=wQ h
    obtain ⟨o1,o2,o3,o4,o5⟩:=O
    cases hbad:(!ok||!decide (k=N.getD i 0)) with
    | true =>
      right
      refine ⟨_,_,?_,?_,.inl ⟨rfl,rfl⟩⟩
      . generalize hd:D[i]=d at o1 hg
        simp only [B28_0,d0,d1,d2,yE,Bool.true_or,zH,zu,zE,hg,o1,hbad]
      . generalize hd:D[i]=d at o2 hg
        simp only [B31_0,d0,d1,d2,yE,Bool.true_or,zH,zu,zE,hg,o2,hbad]
    | false =>
      left
      have hok:ok=true:=by cases ok <;> simp_all
      subst hok
      refine ⟨((true,(),(),true,D,((D.length:Nat):Int),((i+1:Nat):Int),()),(((),(),last,()),um,J,(sg,n,cn,tn,tb,tt,D,N,us,by',er,()),(j3.1,j3.2.1,j3.2.2.1,()),((),(),last,()),um2,J,())),
        (((),(),ix,(),L2,((i+1:Nat):Int),()),((L,J,()),(sg,n,cn,tn,tb,tt,D,N,us,by',er,()),(j4.1,j4.2.1,j4.2.2.1,j4.2.2.2.1,()),())),?_,?_,⟨i+1,um2,L2,h,o3,by omega,rfl,rfl⟩,by simp only;omega⟩
      . generalize hd:D[i]=d at o1 hg
        simp only [B28_0,d0,d1,d2,yE,Bool.true_or,zH,zK,zu,zE,hg,o1,hbad,w1]
      . generalize hd:D[i]=d at o2 hg
        simp only [B31_0,d0,d1,d2,yE,Bool.true_or,zH,zK,zu,zE,hg,o2,hbad,w1]
  . right
    have d0:decide ((i:Int)<((D.length:Nat):Int))=false:=z7 (by omega)
    refine ⟨_,_,?_,?_,.inr ⟨um',L',rfl,rfl,R',by omega⟩⟩
    . simp only [B28_0,d0,zK]
    . simp only [B31_0,d0,zK]
abbrev T31 (s:((Unit×Int×Unit×List RS×Unit)×((List RS×x6×Unit)×((Int×List Dd×Bool×Bool×Unit)×Unit)))⊕((Unit×Unit×Unit)×((List RS×x6×Unit)×Unit))):Option (Int×((List RS×x6×Unit)×Unit)) :=
 match s with
 | .inl p=>(F33 (((),p.1.2.1,(p.2.2.1.1,p.2.2.1.2.1,true,p.2.2.1.2.2.2.1,()),()),((p.1.2.2.2.1,p.2.1.2.1,()),()))).bind λr=>some (0,((r.2.1.1,r.2.2.1,()),()))
 | .inr q=>some (4,((q.2.1.1,q.2.1.2.1,()),()))
noncomputable instance (D l:List Dd):Decidable (uE D l):=Classical.propDecidable _
theorem want_eq (a b:Dd):((a.1,(a.2.1,(a.2.2.1,(a.2.2.2.1,(a.2.2.2.2.1,(a.2.2.2.2.2.1,(a.2.2.2.2.2.2.1,(a.2.2.2.2.2.2.2.1,(b.2.2.2.2.2.2.2.2.1,(a.2.2.2.2.2.2.2.2.2.1,())))))))))):Dd)=b<->zep a=zep b:=by
 obtain ⟨a1,a2,a3,a4,a5,a6,a7,a8,a9,a10,⟨⟩⟩:=a
 obtain ⟨b1,b2,b3,b4,b5,b6,b7,b8,b9,b10,⟨⟩⟩:=b
 simp [zep]
theorem F31_eq {L:List RS} {J A B:x6} (m:Mk) {D0:List Dd} {dn an:Bool} (_hJ:J.length<=100000000) (hsp:J=A++(m.2.1,(D0,(dn,(an,()))))::B) (h32:F32 (((),m.2.1,()),((L,J,()),()))=some (((A.length:Nat):Int),((L,J,()),())))
  (hD:JobOK D0) (hl:m.2.2.2.2.2.2.1.length<=1050000) (hda:(dn||an)=false) {s} (hs:uE D0 m.2.2.2.2.2.2.1/\m.2.2.2.2.2.2.2.1.length=m.2.2.2.2.2.2.1.length->L31_0 (((),(),((A.length:Nat):Int),(),L,(0:Int),()),((L,J,()),m,(m.2.1,(D0,(dn,(an,())))),()))=some s) :
  (uE D0 m.2.2.2.2.2.2.1/\m.2.2.2.2.2.2.2.1.length=m.2.2.2.2.2.2.1.length->F31 (((),m,()),((L,J,()),()))=T31 s) /\
  (¬ (uE D0 m.2.2.2.2.2.2.1/\m.2.2.2.2.2.2.2.1.length=m.2.2.2.2.2.2.1.length)->F31 (((),m,()),((L,J,()),()))=some (4,((L,J,()),()))):=by
 obtain ⟨sg,n,cn,tn,tb,tt,D,N,us,by',er,⟨⟩⟩:=m
 simp only at hsp h32 hl hs ⊢
 have h1:=hD.some'
 have h2:=hD.few
 have i0:decide (((A.length:Nat):Int)<0)=false:=z7 (by omega)
 have i1:decide ((0:Int)<=((A.length:Nat):Int))=true:=zX (by omega)
 have hAJ:A.length<J.length:=by rw [hsp];simp
 have i2:decide (((A.length:Nat):Int)<((J.length:Nat):Int))=true:=zX (by omega)
 have hgj:J.getD A.length noj=(n,(D0,(dn,(an,())))):=by rw [hsp];simp
 have b1:zC (([]:List Dd).length+D0.length) 120=true:=zU (by simp only [List.length_nil];omega)
 have p0:decide ((0:Int)<((D0.length:Nat):Int))=true:=zX (by omega)
 have hN:decide (((N.length:Nat):Int)=((D.length:Nat):Int))=decide (N.length=D.length):=by
  by_cases h:N.length=D.length
  ·simp [h]
  ·rw [z7 (by omega),z7 h]
 by_cases h9:(D0.getD 0 nod).1=9
 ·have hD1:D0.length=1:=hD.alone (D0.getD 0 nod) (by rw [wQ (by omega)];exact List.getElem_mem _) h9
  obtain ⟨a,rfl⟩:=List.length_eq_one_iff.1 hD1
  have h9':a.1=9:=h9
  by_cases hl2:D.length=2
  ·match D,hl2 with
   | [b,e],_ =>
    have q2:decide ((([b,e].length:Nat):Int)=2)=true:=rfl
    have q1:decide ((1:Int)<(([b,e].length:Nat):Int))=true:=rfl
    have q0:decide ((0:Int)<(([b,e].length:Nat):Int))=true:=rfl
    have c9:decide ((List.getD [a] 0 nod).1=9)=true:=zX h9
    have hF:uE [a] [b,e]<->zep a=zep b/\e.1=8/\e.2.1=a.2.1/\e.2.2.2.2.2.2.2.2.1=b.2.2.2.2.2.2.2.2.1:=by
     unfold uE
     rw [if_pos h9]
     constructor
     ·rintro ⟨b',e',hh,g1,g2,g3,g4⟩
      simp only [List.cons.injEq,and_true] at hh
      obtain ⟨rfl,rfl⟩:=hh
      have g1':zep a=zep b:=g1
      exact ⟨g1',g2,by rw [g3];exact (congrArg (λx:Dd=>x.2.1) g1').symm,g4⟩
     ·rintro ⟨g1,g2,g3,g4⟩
      exact ⟨b,e,rfl,g1,g2,by rw [g3];show (zep a).2.1=(zep b).2.1;rw [g1],g4⟩
    have hone:∀ x:Dd,decide ((0:Int)<(([x].length:Nat):Int))=true:=λ_=>rfl
    have c9':decide (a.1=9)=true:=zX h9'
    cases hw:((!decide (e.1=8)||!decide (e.2.1=a.2.1))||!decide (e.2.2.2.2.2.2.2.2.1=b.2.2.2.2.2.2.2.2.1)) with
    | true =>
     have hno:¬ uE [a] [b,e]:=by
      rw [hF]
      rintro ⟨_,g2,g3,g4⟩
      rw [zX g2,zX g3,zX g4] at hw
      simp at hw
     refine ⟨λh=>absurd h.1 hno,λ_=>?_⟩
     simp only [F31,h32,zE,i0,zK,i1,i2,yE,zH,zu,hgj,hda,b1,List.nil_append,p0,List.getD_cons_zero,c9',q2,yA,q0,q1,List.getD_cons_succ,List.set_cons_zero,hone,Bool.true_or,hw]
    | false =>
     simp only [Bool.or_eq_false_iff,Bool.not_eq_false',xh] at hw
     obtain ⟨⟨g2,g3⟩,g4⟩:=hw
     have hw:((!decide (e.1=8)||!decide (e.2.1=a.2.1))||!decide (e.2.2.2.2.2.2.2.2.1=b.2.2.2.2.2.2.2.2.1))=false:=by
      rw [zX g2,zX g3,zX g4];rfl
     have b2:zC ([((a.1,(a.2.1,(a.2.2.1,(a.2.2.2.1,(a.2.2.2.2.1,(a.2.2.2.2.2.1,(a.2.2.2.2.2.2.1,(a.2.2.2.2.2.2.2.1,(b.2.2.2.2.2.2.2.2.1,(a.2.2.2.2.2.2.2.2.2.1,())))))))))):Dd)].length+[e].length) 120=true:=rfl
     have e45:=F45_eq ([((a.1,(a.2.1,(a.2.2.1,(a.2.2.2.1,(a.2.2.2.2.1,(a.2.2.2.2.2.1,(a.2.2.2.2.2.2.1,(a.2.2.2.2.2.2.2.1,(b.2.2.2.2.2.2.2.2.1,(a.2.2.2.2.2.2.2.2.2.1,())))))))))):Dd)]++[e]) [b,e] (by simp)
     have hq:decide ([((a.1,(a.2.1,(a.2.2.1,(a.2.2.2.1,(a.2.2.2.2.1,(a.2.2.2.2.2.1,(a.2.2.2.2.2.2.1,(a.2.2.2.2.2.2.2.1,(b.2.2.2.2.2.2.2.2.1,(a.2.2.2.2.2.2.2.2.2.1,())))))))))):Dd)]++[e]=[b,e])=decide (uE [a] [b,e]):=by
      congr 1
      rw [hF]
      simp only [List.cons_append,List.nil_append,List.cons.injEq,and_true,want_eq,eq_iff_iff]
      exact ⟨λh=>⟨h,g2,g3,g4⟩,λh=>h.1⟩
     rw [hq] at e45
     constructor
     ·intro hf
      have hs':=hs hf
      rw [zX hf.1] at e45
      have hn':decide ((N.length:Int)=(([b,e].length:Nat):Int))=true:=by rw [hN];exact zX hf.2
      simp only [F31,h32,zE,i0,zK,i1,i2,yE,zH,zu,hgj,hda,b1,List.nil_append,p0,List.getD_cons_zero,c9',q2,yA,q0,q1,List.getD_cons_succ,List.set_cons_zero,hone,Bool.true_or,hw,b2,e45,hn',Bool.or_self,hs']
      cases s <;> rfl
     ·intro hf
      have hc:(!decide (uE [a] [b,e])||!decide ((N.length:Int)=(([b,e].length:Nat):Int)))=true:=by
       rw [hN]
       by_cases g:uE [a] [b,e]
       ·rw [z7 λh=>hf ⟨g,h⟩];simp
       ·simp [g]
      simp only [F31,h32,zE,i0,zK,i1,i2,yE,zH,zu,hgj,hda,b1,List.nil_append,p0,List.getD_cons_zero,c9',q2,yA,q0,q1,List.getD_cons_succ,List.set_cons_zero,hone,Bool.true_or,hw,b2,e45,hc]
  ·have hno:¬ uE [a] D:=by
    unfold uE
    rw [if_pos h9]
    rintro ⟨b,e,rfl,_⟩
    exact hl2 rfl
   refine ⟨λh=>absurd h.1 hno,λ_=>?_⟩
   have q2:decide (((D.length:Nat):Int)=2)=false:=z7 (by omega)
   have c9':decide (a.1=9)=true:=zX h9'
   simp only [F31,h32,zE,i0,zK,i1,i2,yE,zH,zu,hgj,hda,b1,List.nil_append,p0,List.getD_cons_zero,c9',q2,yx]
 ·have c9:decide ((List.getD D0 0 nod).1=9)=false:=z7 h9
  have hF:uE D0 D<->D0=D:=by unfold uE;rw [if_neg h9]
  have e45:=F45_eq D0 D (by omega)
  constructor
  ·intro hf
   have hs':=hs hf
   rw [zX (hF.1 hf.1)] at e45
   have hn':decide ((N.length:Int)=((D.length:Nat):Int))=true:=by rw [hN];exact zX hf.2
   simp only [F31,h32,zE,i0,zK,i1,i2,yE,zH,zu,hgj,hda,b1,List.nil_append,p0,c9,e45,hn',yA,Bool.or_self,hs']
   cases s <;> rfl
  ·intro hf
   have hc:(!decide (D0=D)||!decide ((N.length:Int)=((D.length:Nat):Int)))=true:=by
    rw [hN]
    by_cases g:D0=D
    ·rw [z7 λh=>hf ⟨hF.2 g,h⟩];simp
    ·simp [g]
   simp only [F31,h32,zE,i0,zK,i1,i2,yE,zH,zu,hgj,hda,b1,List.nil_append,p0,c9,e45,hc]
theorem JOK.of {J:x6} {last:Int} (K:JOK J last) {A B:x6} {n:Int} {j:Jb} (h:J=A++(n,j)::B):JobOK j.1:=by
 have:=K.each (n,j) (by rw [h];simp)
 exact this
theorem did_both {um:Um} {J:x6} {last:Int} {L:List RS} (R:RelF um L) (K:JOK J last) (m:Mk) (S:SmM m) (hJ:J.length<=10000000) (hL:L.length<=90000000) :
  ∃ e um' J' L',F28 ((true,m,()),(((),(),last,()),um,J,()))=some (e,(((),(),last,()),um',J',()))/\F31 (((),m,()),((L,J,()),()))=some (e,((L',J',()),())) /\
   RelF um' L'/\JOK J' last/\L'.length<=L.length+12/\J'.length<=J.length+1:=by
 have s1:=S.deeds
 rcases F32_eq L J m.2.1 (by omega) with ⟨A,B,j,hsp,hg,hset,h32⟩ | ⟨hg,h32⟩
 ·obtain ⟨D0,dn,an,⟨⟩⟩:=j
  have hD:JobOK D0:=K.of hsp
  have hAJ:A.length<J.length:=by rw [hsp];simp
  have i0:decide (((A.length:Nat):Int)<0)=false:=z7 (by omega)
  have i1:decide ((0:Int)<=((A.length:Nat):Int))=true:=zX (by omega)
  have i2:decide (((A.length:Nat):Int)<((J.length:Nat):Int))=true:=zX (by omega)
  have hgj:J.getD A.length noj=(m.2.1,(D0,(dn,(an,())))):=by rw [hsp];simp
  cases hda:(dn||an) with
  | true =>
   refine ⟨13,um,J,L,?_,?_,R,K,by omega,by omega⟩
   ·obtain ⟨sg,n,cn,tn,tb,tt,D,N,us,by',er,⟨⟩⟩:=m
    simp only at hg hgj h32
    simp only [F28,zH,zK,zS,hg,Option.isSome_some,Option.getD_some,zE,yA,hda]
   ·obtain ⟨sg,n,cn,tn,tb,tt,D,N,us,by',er,⟨⟩⟩:=m
    simp only at hg hgj h32
    simp only [F31,h32,zE,i0,zK,i1,i2,yE,zH,zu,hgj,hda]
  | false =>
   obtain ⟨q,h41,hq⟩:=F41_eq hD m.2.2.2.2.2.2.1 dn an (by omega)
   by_cases hf:uE D0 m.2.2.2.2.2.2.1/\m.2.2.2.2.2.2.2.1.length=m.2.2.2.2.2.2.1.length
   ·have hq':q=true:=hq.2 hf.1
    subst hq'
    have h12:m.2.2.2.2.2.2.1.length<=12:=by
     have:=hf.1
     unfold uE at this
     split at this
     ·obtain ⟨b,e,h,_⟩:=this
      rw [h];simp
     ·rw [<- this];exact hD.few
    have hl:decide (((m.2.2.2.2.2.2.2.1.length:Nat):Int)=((m.2.2.2.2.2.2.1.length:Nat):Int))=true:=zX (by rw [hf.2])
    obtain ⟨r,s,g1,g2,g3⟩:=runs_both R J last m S (D0,(dn,(an,()))) (m.2.1,(D0,(dn,(an,())))) ((A.length:Nat):Int) h12 hf.2 hL
    obtain ⟨t1,_⟩:=F31_eq m (by omega) hsp h32 hD s1 hda (s:=s) λ_=>g2
    have t1:=t1 hf
    rcases g3 with ⟨rfl,rfl⟩ | ⟨um',L',rfl,rfl,g3,g4⟩
    ·refine ⟨4,um,J,L,?_,by rw [t1],R,K,by omega,by omega⟩
     obtain ⟨sg,n,cn,tn,tb,tt,D,N,us,by',er,⟨⟩⟩:=m
     simp only at hg hgj h32 h41 hl g1
     simp only [F28,zH,zK,zS,hg,Option.isSome_some,Option.getD_some,zE,yA,hda,h41,hl,Bool.or_self,F13,zV,g1]
    ·have h33:=F33_eq L' A B m.2.1 (D0,(dn,(an,()))) (m.2.1,(D0,(true,(an,())))) (by rw [<- hsp];omega)
     rw [<- hsp] at h33
     have K':JOK (A++(m.2.1,(D0,(true,(an,()))))::B) last:=by
      rw [hsp] at K
      exact K.set hD
     refine ⟨0,um',A++(m.2.1,(D0,(true,(an,()))))::B,L',?_,?_,g3,K',g4,by rw [hsp];simp⟩
     ·obtain ⟨sg,n,cn,tn,tb,tt,D,N,us,by',er,⟨⟩⟩:=m
      simp only at hg hgj h32 h41 hl g1 hset
      simp only [F28,zH,zK,zS,hg,Option.isSome_some,Option.getD_some,zE,yA,hda,h41,hl,Bool.or_self,F13,zV,g1,hset]
     ·rw [t1]
      simp only [T31,h33,zE]
   ·obtain ⟨_,t2⟩:=F31_eq m (by omega) hsp h32 hD s1 hda (s:=.inr (((),(),()),((L,J,()),()))) λh=>absurd h hf
    refine ⟨4,um,J,L,?_,t2 hf,R,K,by omega,by omega⟩
    have hc:(!q||!decide (((m.2.2.2.2.2.2.2.1.length:Nat):Int)=((m.2.2.2.2.2.2.1.length:Nat):Int)))=true:=by
     cases q with
     | false=>rfl
     | true=>rw [z7 λh=>hf ⟨hq.1 rfl,by omega⟩];rfl
    obtain ⟨sg,n,cn,tn,tb,tt,D,N,us,by',er,⟨⟩⟩:=m
    simp only at hg hgj h32 h41 hc
    simp only [F28,zH,zK,zS,hg,Option.isSome_some,Option.getD_some,zE,yA,hda,h41,hc]
 ·refine ⟨9,um,J,L,?_,?_,R,K,by omega,by omega⟩
  ·obtain ⟨sg,n,cn,tn,tb,tt,D,N,us,by',er,⟨⟩⟩:=m
   simp only at hg h32
   simp only [F28,zH,zS,hg,Option.isSome_none,Option.getD_none,zE,yx]
  ·obtain ⟨sg,n,cn,tn,tb,tt,D,N,us,by',er,⟨⟩⟩:=m
   simp only at hg h32
   simp only [F31,h32,zE,show decide ((-1:Int)<0)=true by decide,zH]
theorem answer_both {um:Um} {J:x6} {last:Int} {L:List RS} (_R:RelF um L) (K:JOK J last) (m:Mk) (hJ:J.length<=10000000) (hs:m.1=3) :
  ∃ e J',F29 ((true,m,()),(((),(),last,()),um,J,()))=some (e,(((),(),last,()),um,J',()))/\F16 (((),m,()),((L,J,()),()))=some (e,((L,J',()),())) /\
   JOK J' last/\J'.length<=J.length+1:=by
 rcases F32_eq L J m.2.1 (by omega) with ⟨A,B,j,hsp,hg,hset,h32⟩ | ⟨hg,h32⟩
 ·obtain ⟨D0,dn,an,⟨⟩⟩:=j
  have hD:JobOK D0:=K.of hsp
  have hAJ:A.length<J.length:=by rw [hsp];simp
  have i0:decide (((A.length:Nat):Int)<0)=false:=z7 (by omega)
  have i1:decide ((0:Int)<=((A.length:Nat):Int))=true:=zX (by omega)
  have i2:decide (((A.length:Nat):Int)<((J.length:Nat):Int))=true:=zX (by omega)
  have hgj:J.getD A.length noj=(m.2.1,(D0,(dn,(an,())))):=by rw [hsp];simp
  obtain ⟨sg,n,cn,tn,tb,tt,D,N,us,by',er,⟨⟩⟩:=m
  simp only at hg hgj h32 hs hset hsp
  subst hs
  cases an with
  | true =>
   refine ⟨13,J,?_,?_,K,by omega⟩
   ·simp only [F29,zH,zK,zS,hg,Option.isSome_some,Option.getD_some,zE,yA]
   ·simp only [F16,show decide ((3:Int)=1)=false by decide,show decide ((3:Int)=2)=false by decide,zV,h32,zE,i0,zK,i1,i2,yE,zH,zu,hgj]
  | false =>
   by_cases he:decide (er=0)=dn
   ·have K':JOK (A++(n,(D0,(dn,(true,()))))::B) last:=by
     rw [hsp] at K
     exact K.set hD
    have h33:=F33_eq L A B n (D0,(dn,(false,()))) (n,(D0,(dn,(true,())))) (by rw [<- hsp];omega)
    rw [<- hsp] at h33
    refine ⟨0,A++(n,(D0,(dn,(true,()))))::B,?_,?_,K',by rw [hsp];simp⟩
    ·simp only [F29,zH,zK,zS,hg,Option.isSome_some,Option.getD_some,zE,yA,he,beq_self_eq_true,hset]
    ·simp only [F16,show decide ((3:Int)=1)=false by decide,show decide ((3:Int)=2)=false by decide,zV,h32,zE,i0,zK,i1,i2,yE,zH,zu,hgj,he,beq_self_eq_true,yA,h33]
   ·have c1:(!(decide (er=0) == dn))=true:=by
     cases h:decide (er=0) <;> cases dn <;> simp_all
    have c2:(!(dn == decide (er=0)))=true:=by
     cases h:decide (er=0) <;> cases dn <;> simp_all
    refine ⟨4,J,?_,?_,K,by omega⟩
    ·simp only [F29,zH,zK,zS,hg,Option.isSome_some,Option.getD_some,zE,yA,c1]
    ·simp only [F16,show decide ((3:Int)=1)=false by decide,show decide ((3:Int)=2)=false by decide,zV,h32,zE,i0,zK,i1,i2,yE,zH,zu,hgj,c2]
 ·obtain ⟨sg,n,cn,tn,tb,tt,D,N,us,by',er,⟨⟩⟩:=m
  simp only at hg h32 hs
  subst hs
  refine ⟨9,J,?_,?_,K,by omega⟩
  ·simp only [F29,zH,zK,zS,hg,Option.isSome_none,Option.getD_none,zE,yx]
  ·simp only [F16,show decide ((3:Int)=1)=false by decide,show decide ((3:Int)=2)=false by decide,zV,zH,zK,h32,zE,show decide ((-1:Int)<0)=true by decide]
theorem saw_both {um:Um} {J:x6} {last:Int} {L:List RS} (R:RelF um L) (m:Mk) (hL:L.length<=99999999) (hs:m.1=4) :
  ∃ e,F30 ((true,m,()),(((),(),last,()),um,J,()))=some (e,(((),(),last,()),um,J,()))/\F16 (((),m,()),((L,J,()),()))=some (e,((L,J,()),())):=by
 obtain ⟨sg,n,cn,tn,tb,tt,D,N,us,by',er,⟨⟩⟩:=m
 simp only at hs
 subst hs
 have n1:decide ((4:Int)=1)=false:=by decide
 have n2:decide ((4:Int)=2)=false:=by decide
 have n3:decide ((4:Int)=3)=false:=by decide
 have hS:=R.same us
 rcases F23_eq R.rise us (by omega) with ⟨A,s,B,hL',hn,hA,hB,h23⟩ | ⟨A,B,hL',hA,hB,h23⟩
 ·rw [hL',look_at hn hA] at hS
  obtain ⟨mm,hm,Rm⟩:=seat_is hS
  have hAl:A.length<L.length:=by rw [hL'];simp
  have d0:decide ((0:Int)<=((A.length:Nat):Int))=true:=zX (by omega)
  have d1:decide (((A.length:Nat):Int)<((L.length:Nat):Int))=true:=zX (by omega)
  have hg:L.getD A.length nos=s:=by rw [hL'];exact getA _
  obtain ⟨⟨un,uv,ls,⟨⟩⟩,ep,⟨⟩⟩:=s
  simp only at hn hm Rm
  have has:=as_eq Rm ep hn
  have G:Fine (un,uv,ls,()):=(Rm.fine.fine un (un,(uv,(ls,()))) (by rw [Rm.same];simp)).1
  have h34:=F34_eq G
  cases hq:decide (putU (un,uv,ls,())=by') with
  | true =>
   have hq':decide (by'=putU (un,uv,ls,()))=true:=zX (of_decide_eq_true hq).symm
   refine ⟨0,?_,?_⟩
   ·simp only [F30,zH,zK,zS,hm,Option.isSome_some,Option.getD_some,zE,yA,has,F43_eq,hq']
   ·simp only [F16,n1,n2,n3,zV,zH,zK,h23,zE,yA,d0,d1,yE,zu,hg,h34,hq]
  | false =>
   have hq':decide (by'=putU (un,uv,ls,()))=false:=z7 λh=>of_decide_eq_false hq h.symm
   refine ⟨4,?_,?_⟩
   ·simp only [F30,zH,zK,zS,hm,Option.isSome_some,Option.getD_some,zE,yA,yx,has,F43_eq,hq']
   ·simp only [F16,n1,n2,n3,zV,zH,zK,h23,zE,yA,yx,d0,d1,yE,zu,hg,h34,hq]
 ·rw [hL',look_no hA hB] at hS
  have hm:=seat_no hS
  refine ⟨9,?_,?_⟩
  ·simp only [F30,zH,zS,hm,Option.isSome_none,Option.getD_none,zE,yx]
  ·simp only [F16,n1,n2,n3,zV,zH,zK,h23,zE,yx]
theorem mark_both {um:Um} {J:x6} {last:Int} {L:List RS} (R:RelF um L) (K:JOK J last) (m:Mk) (S:SmM m) (hJ:J.length<=10000000) (hL:L.length<=90000000) :
  ∃ e um' J' last' L',Took um J last L m e um' J' last' L':=by
 by_cases h1:m.1=1
 ·obtain ⟨e,J',last',g1,g2,g3,g4⟩:=wish_both R K m S hJ h1
  refine ⟨e,um,J',last',L,?_,g2,R,g3,by omega,g4⟩
  obtain ⟨sg,n,cn,tn,tb,tt,D,N,us,by',er,⟨⟩⟩:=m
  simp only at h1
  subst h1
  simp only [F15,yA,zK,zV,zH,g1,zE]
 ·by_cases h2:m.1=2
  ·obtain ⟨e,um',J',L',g1,g2,g3,g4,g5,g6⟩:=did_both R K m S hJ hL
   obtain ⟨sg,n,cn,tn,tb,tt,D,N,us,by',er,⟨⟩⟩:=m
   simp only at h2
   subst h2
   refine ⟨e,um',J',last,L',?_,?_,g3,g4,g5,g6⟩
   ·simp only [F15,yA,zK,show decide ((2:Int)=1)=false by decide,zV,zH,g1,zE]
   ·simp only [F16,zK,show decide ((2:Int)=1)=false by decide,zV,zH,g2,zE]
  ·by_cases h3:m.1=3
   ·obtain ⟨e,J',g1,g2,g3,g4⟩:=answer_both R K m hJ h3
    refine ⟨e,um,J',last,L,?_,g2,R,g3,by omega,g4⟩
    obtain ⟨sg,n,cn,tn,tb,tt,D,N,us,by',er,⟨⟩⟩:=m
    simp only at h3
    subst h3
    simp only [F15,yA,zK,show decide ((3:Int)=1)=false by decide,show decide ((3:Int)=2)=false by decide,zV,zH,g1,zE]
   ·by_cases h4:m.1=4
    ·obtain ⟨e,g1,g2⟩:=saw_both (J:=J) (last:=last) R m (by omega) h4
     refine ⟨e,um,J,last,L,?_,g2,R,K,by omega,by omega⟩
     obtain ⟨sg,n,cn,tn,tb,tt,D,N,us,by',er,⟨⟩⟩:=m
     simp only at h4
     subst h4
     simp only [F15,yA,zK,show decide ((4:Int)=1)=false by decide,show decide ((4:Int)=2)=false by decide,show decide ((4:Int)=3)=false by decide,zV,zH,g1,zE]
    ·refine ⟨14,um,J,last,L,?_,?_,R,K,by omega,by omega⟩
     ·obtain ⟨sg,n,cn,tn,tb,tt,D,N,us,by',er,⟨⟩⟩:=m
      simp only at h1 h2 h3 h4
      simp only [F15,yA,zK,z7 h1,z7 h2,z7 h3,z7 h4]
     ·obtain ⟨sg,n,cn,tn,tb,tt,D,N,us,by',er,⟨⟩⟩:=m
      simp only at h1 h2 h3 h4
      simp only [F16,zK,z7 h1,z7 h2,z7 h3,z7 h4]
abbrev mk1:List Dd:=[(1,[117],[],[],0,0,0,0,0,[],())]
abbrev usl:(List UInt8×Int×List (List UInt8×Int×Int×List (Int×UInt8×List UInt8×Unit)×Unit)×Unit)×Int×Unit:=(([117],1,[([73,78,66,79,88],1,1,[],())],()),1,())
theorem live3:F7 (([(3,1,0,(0,0,0,()),[],[],[],[],0,())],()),())=some ((0,9,()),()):=by kernel_rfl
theorem live5:F16 (((),(2,1,0,0,0,0,mk1,[1],[],[],0,()),()),(([],[(1,(mk1,false,false,()))],()),()))=some (0,(([usl],[(1,(mk1,true,false,()))],()),())):=by kernel_rfl
theorem live7:F16 (((),(3,1,0,0,0,0,[],[],[],[],0,()),()),(([usl],[(1,(mk1,true,false,()))],()),()))=some (0,(([usl],[(1,(mk1,true,true,()))],()),())):=by kernel_rfl
theorem live4:F16 (((),(1,1,0,0,0,0,mk1,[],[],[],0,()),()),(([],[],()),()))=some (0,(([],[(1,(mk1,false,false,()))],()),())):=by
 simp only [F16,zS]
 kernel_rfl
abbrev lms:List (Int×Int×Int×(Int×Int×Int×Unit)×List Dd×List Int×Tx×List UInt8×Int×Unit):=[(1,1,0,(0,0,0,()),mk1,[],[],[],0,()),(2,1,0,(0,0,0,()),mk1,[1],[],[],0,()),(3,1,0,(0,0,0,()),[],[],[],[],0,())]
theorem liveF7:F7 ((lms,()),())=some ((3,0,()),()):=by
 have w1:zZ (0+1)=1:=by rfl
 have w2:zZ (1+1)=2:=by rfl
 have w3:zZ (2+1)=3:=by rfl
 have h4:=live4
 have h5:=live5
 have h7:=live7
 have s0:B7_0 ((lms,(),(0:Int),()),((([]:List RS),([]:x6),()),()))=some (.inl ((lms,(),(1:Int),()),((([]:List RS),[(1,(mk1,false,false,()))],()),()))):=by
  simp only [B7_0,List.length_cons,List.length_nil,show decide ((0:Int)<=0)=true from rfl,show decide ((0:Int)<((0+1+1+1:Nat):Int))=true from rfl,Bool.and_true,zH,zE,Int.toNat_zero,List.getD_cons_zero,h4,zV,yA,zK,w1]
 have s1:B7_0 ((lms,(),(1:Int),()),((([]:List RS),[(1,(mk1,false,false,()))],()),()))=some (.inl ((lms,(),(2:Int),()),(([usl],[(1,(mk1,true,false,()))],()),()))):=by
  simp only [B7_0,List.length_cons,List.length_nil,show decide ((0:Int)<=1)=true from rfl,show decide ((1:Int)<((0+1+1+1:Nat):Int))=true from rfl,Bool.and_true,zH,zE,show (1:Int).toNat=1 from rfl,List.getD_cons_succ,List.getD_cons_zero,h5,zV,yA,zK,w2]
 have s2:B7_0 ((lms,(),(2:Int),()),(([usl],[(1,(mk1,true,false,()))],()),()))=some (.inl ((lms,(),(3:Int),()),(([usl],[(1,(mk1,true,true,()))],()),()))):=by
  simp only [B7_0,List.length_cons,List.length_nil,show decide ((0:Int)<=2)=true from rfl,show decide ((2:Int)<((0+1+1+1:Nat):Int))=true from rfl,Bool.and_true,zH,zE,show (2:Int).toNat=2 from rfl,List.getD_cons_succ,List.getD_cons_zero,h7,zV,yA,zK,w3]
 have s3:B7_0 ((lms,(),(3:Int),()),(([usl],[(1,(mk1,true,true,()))],()),()))=some (.inr (.inl ((lms,()),()))):=by
  simp only [B7_0,List.length_cons,List.length_nil,show decide ((3:Int)<((0+1+1+1:Nat):Int))=false from rfl,zK]
 have h:L7_0 ((lms,(),(0:Int),()),((([]:List RS),([]:x6),()),()))=some (.inl ((lms,()),())):=by
  show iter B7_0 FUEL _=_
  rw [show FUEL=9223372036854775804+1+1+1+1 from rfl]
  simp only [iter,s0,s1,s2,s3]
 simp only [F7,F20,zE,h]
 rfl
abbrev Mn:Type:=Int×Int×Int×(Int×Int×Int×Unit)×List Dd×List Int×Tx×List UInt8×Int×Unit
abbrev nom:Mn:=((0:Int),((0:Int),((0:Int),(((0:Int),((0:Int),((0:Int),()))),(([]:List Dd),(([]:List Int),(([]:List UInt8),(([]:List UInt8),((0:Int),())))))))))
abbrev flatM (x:Mn):Mk:=(x.1,x.2.1,x.2.2.1,x.2.2.2.1.1,x.2.2.2.1.2.1,x.2.2.2.1.2.2.1,x.2.2.2.2.1,x.2.2.2.2.2.1,x.2.2.2.2.2.2.1,x.2.2.2.2.2.2.2.1,x.2.2.2.2.2.2.2.2.1,())
theorem judge_both (l:List Mn) (hs:∀ x∈l,SmM (flatM x)) (hl:l.length<=1100000):∃ i e,F6 ((l,()),())=some ((i,e,()),())/\F7 ((l,()),())=some ((i,e,()),()):=by
 have hF:=zO
 obtain ⟨r,s,g1,g2,g3⟩:=loops (f:=B6_0) (g:=B7_0) (p:=((l,(),l,((l.length:Nat):Int),(0:Int),()),(((),(),(0:Int),()),([]:Um),([]:x6),()))) (q:=((l,(),(0:Int),()),((([]:List RS),([]:x6),()),())))
  (λp q=>∃ (i:Nat) (um:Um) (J:x6) (last:Int) (L:List RS),i<=l.length/\RelF um L/\JOK J last/\L.length<=12*i/\J.length<=i /\
   p=((l,(),l,((l.length:Nat):Int),(i:Int),()),(((),(),last,()),um,J,()))/\q=((l,(),(i:Int),()),((L,J,()),())))
  (λp=>l.length-p.1.2.2.2.2.1.toNat)
  (λr s=>(r=.inl ((l,()),())/\s=.inl ((l,()),()))\/∃ i e,r=.inr ((i,e,()),())/\s=.inr ((i,e,()),()))
  (λp q ⟨i,um,J,last,L,hi,R,K,hL,hJ,hp,hq⟩=>by
   subst hp hq
   rcases Nat.lt_or_ge i l.length with h | h
   ·have d0:decide ((i:Int)<((l.length:Nat):Int))=true:=zX (by omega)
    have d1:decide ((0:Int)<=(i:Int))=true:=zX (by omega)
    have w1:zZ ((i:Int)+1)=((i+1:Nat):Int):=by rw [zQ (by omega) (by omega)];rfl
    have hg:l.getD i nom=l[i]:=by rw [xo,List.getElem?_eq_getElem h];rfl
    obtain ⟨e,um',J',last',L',T⟩:=mark_both R K (flatM l[i]) (hs _ (List.getElem_mem h)) (by omega) (by omega)
    obtain ⟨t1,t2,t3,t4,t5,t6⟩:=T
    by_cases he:e=0
    ·left
     refine ⟨((l,(),l,((l.length:Nat):Int),((i+1:Nat):Int),()),(((),(),last',()),um',J',())),((l,(),((i+1:Nat):Int),()),((L',J',()),())),?_,?_,⟨i+1,um',J',last',L',h,t3,t4,by omega,by omega,rfl,rfl⟩,by simp only;omega⟩
     ·generalize hx:l[i]=x at t1 hg
      simp only [B6_0,d0,d1,yE,zH,zK,zu,hg,zE,t1,he,zV,yA,w1]
     ·generalize hx:l[i]=x at t2 hg
      simp only [B7_0,d0,d1,yE,zH,zK,zu,hg,zE,t2,he,zV,yA,w1]
    ·right
     refine ⟨_,_,?_,?_,.inr ⟨(i:Int),e,rfl,rfl⟩⟩
     ·generalize hx:l[i]=x at t1 hg
      simp only [B6_0,d0,d1,yE,zH,zu,hg,zE,t1,z7 he,yx]
     ·generalize hx:l[i]=x at t2 hg
      simp only [B7_0,d0,d1,yE,zH,zu,hg,zE,t2,z7 he,yx]
   ·have d0:decide ((i:Int)<((l.length:Nat):Int))=false:=z7 (by omega)
    right
    refine ⟨_,_,?_,?_,.inl ⟨rfl,rfl⟩⟩
    ·simp only [B6_0,d0,zK]
    ·simp only [B7_0,d0,zK])
  ⟨0,[],[],0,[],Nat.zero_le _,RelF.nil,JOK.nil,Nat.le_refl _,Nat.le_refl _,rfl,rfl⟩ (by simp only;omega)
 have g1':L6_0 ((l,(),l,((l.length:Nat):Int),(0:Int),()),(((),(),(0:Int),()),([]:Um),([]:x6),()))=some r:=g1
 have g2':L7_0 ((l,(),(0:Int),()),((([]:List RS),([]:x6),()),()))=some s:=g2
 rcases g3 with ⟨rfl,rfl⟩ | ⟨i,e,rfl,rfl⟩
 ·refine ⟨((l.length:Nat):Int),0,?_,?_⟩
  ·simp only [F6,F19,zE,g1']
  ·simp only [F7,F20,zE,g2']
 ·refine ⟨i,e,?_,?_⟩
  ·simp only [F6,F19,zE,g1']
  ·simp only [F7,F20,zE,g2']
theorem live_true:F8 ((),())=some (true,()):=by
 have sm:∀ x:Mn,x.2.2.2.2.1=[]\/x.2.2.2.2.1=mk1->x.2.2.2.2.2.1.length<=1->SmM (flatM x):=λx h1 h2=>by
  refine ⟨?_,λd hd=>?_,λd hd=>?_,?_⟩
  ·show x.2.2.2.2.1.length<=_
   rcases h1 with h1 | h1 <;> rw [h1] <;> simp
  ·have hd:d∈x.2.2.2.2.1:=hd
   rcases h1 with h1 | h1 <;> rw [h1] at hd
   ·cases hd
   ·rw [List.mem_singleton.1 hd];exact ⟨by simp,by simp,by simp⟩
  ·have hd:d∈x.2.2.2.2.1:=hd
   rcases h1 with h1 | h1 <;> rw [h1] at hd
   ·cases hd
   ·rw [List.mem_singleton.1 hd];exact Nat.zero_le _
  ·show x.2.2.2.2.2.1.length<=_
   omega
 obtain ⟨i1,e1,h1,g1⟩:=judge_both lms (λx hx=>by
  simp only [List.mem_cons,List.not_mem_nil,or_false] at hx
  rcases hx with rfl | rfl | rfl
  ·exact sm _ (.inr rfl) (by simp)
  ·exact sm _ (.inr rfl) (by simp)
  ·exact sm _ (.inl rfl) (by simp)) (by simp)
 obtain ⟨i2,e2,h2,g2⟩:=judge_both [(3,1,0,(0,0,0,()),[],[],[],[],0,())] (λx hx=>by
  rw [List.mem_singleton.1 hx]
  exact sm _ (.inl rfl) (by simp)) (by simp)
 rw [liveF7] at g1
 rw [live3] at g2
 simp only [xC,Prod.mk.injEq,and_true] at g1 g2
 obtain ⟨rfl,rfl⟩:=g1
 obtain ⟨rfl,rfl⟩:=g2
 simp only [F8,h1,h2,zE]
 rfl
theorem law3 (l:List Mn) (hs:∀ x∈l,SmM (flatM x)) (hl:l.length<=1100000):F3 ((l,()),())=some (true,()):=by
 obtain ⟨i,e,h1,h2⟩:=judge_both l hs hl
 simp only [F3,h1,h2,live_true,zE,zV,yE]
abbrev DdT:Ty:=.pair (.int .i64) (.pair .str (.pair .str (.pair .str (.pair (.int .i64) (.pair (.int .i64) (.pair .u8 (.pair (.int .i64) (.pair (.int .i64) (.pair (.sl .u8) .unit)))))))))
abbrev MnT:Ty:=.pair (.int .i64) (.pair (.int .i64) (.pair (.int .i64) (.pair (.pair (.int .i64) (.pair (.int .i64) (.pair (.int .i64) .unit))) (.pair (.sl DdT) (.pair (.sl (.int .i64)) (.pair .str (.pair (.sl .u8) (.pair (.int .i64) .unit))))))))
theorem sum_mem {α:Type} (f:α->Nat):∀ (l:List α) (x:α),x∈l->f x<=(l.map f).sum
 | [],_,h=>by cases h
 | a::t,x,h=>by
  rw [List.map_cons,List.sum_cons]
  rcases List.mem_cons.1 h with rfl | h
  ·omega
  ·have:=sum_mem f t x h;omega
theorem len_sum {α:Type} (f:α->Nat):∀ (l:List α),(∀ x,1<=f x)->l.length<=(l.map f).sum
 | [],_=>Nat.zero_le _
 | a::t,h=>by
  rw [List.map_cons,List.sum_cons,List.length_cons]
  have:=len_sum f t h
  have:=h a
  omega
theorem dd_size (d:Dd):1+((d.2.1.length+1)+((d.2.2.1.length+1)+((d.2.2.2.1.length+1)+(1+(1+(1+(1+(1+(d.2.2.2.2.2.2.2.2.2.1.length+0)))))))))=xA DdT d:=by
 obtain ⟨dd,du,db,dt,uid,how,fl,ds,de,by',⟨⟩⟩:=d
 show _=1+((du.length+1)+((db.length+1)+((dt.length+1)+(1+(1+(1+(1+(1+(xA (.sl .u8) by'+0)))))))))
 rw [sizD_u8]
theorem mn_size (x:Mn):xA (.sl DdT) x.2.2.2.2.1+xA (.sl (.int .i64)) x.2.2.2.2.2.1+1<=xA MnT x:=by
 obtain ⟨sg,n,cn,⟨tn,tb,tt,⟨⟩⟩,D,N,us,by',er,⟨⟩⟩:=x
 show _<=1+(1+(1+((1+(1+(1+0)))+(xA (.sl DdT) D+(xA (.sl (.int .i64)) N+(us.length+1+(xA (.sl .u8) by'+(1+0))))))))
 show xA (.sl DdT) D+xA (.sl (.int .i64)) N+1<=_
 omega
theorem sm_marks (l:List Mn) (hz:xA (.sl MnT) l<=1048576):(∀ x∈l,SmM (flatM x))/\l.length<=1100000:=by
 have h0:xA (.sl MnT) l=(List.map (xA MnT) l).sum:=rfl
 constructor
 ·intro x hx
  have h1:=sum_mem (xA MnT) l x hx
  have h2:=mn_size x
  have h3:xA (.sl DdT) x.2.2.2.2.1=(List.map (xA DdT) x.2.2.2.2.1).sum:=rfl
  have h4:xA (.sl (.int .i64)) x.2.2.2.2.2.1=(List.map (xA (.int .i64)) x.2.2.2.2.2.1).sum:=rfl
  refine ⟨?_,λd hd=>?_,λd hd=>?_,?_⟩
  ·have:=len_sum (xA DdT) x.2.2.2.2.1 λd=>by have:=dd_size d;omega
   show x.2.2.2.2.1.length<=_
   omega
  ·have h5:=sum_mem (xA DdT) x.2.2.2.2.1 d hd
   have h6:=dd_size d
   exact ⟨by omega,by omega,by omega⟩
  ·have h5:=sum_mem (xA DdT) x.2.2.2.2.1 d hd
   have h6:=dd_size d
   show d.2.2.2.2.2.2.2.2.2.1.length<=_
   omega
  ·have:=len_sum (xA (.int .i64)) x.2.2.2.2.2.1 λd=>Nat.le_refl 1
   show x.2.2.2.2.2.1.length<=_
   omega
 ·have:=len_sum (xA MnT) l λx=>by have:=mn_size x;omega
  omega
theorem law3' (l:List Mn) (hz:xA (.sl MnT) l<=1048576):F3 ((l,()),())=some (true,()):=law3 l (sm_marks l hz).1 (sm_marks l hz).2
end Go.Fl
