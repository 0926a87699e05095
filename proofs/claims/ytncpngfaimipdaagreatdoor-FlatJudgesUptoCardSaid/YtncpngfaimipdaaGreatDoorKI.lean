/- Texts that the last one leans on, 9. -/
import Derived.Test.YtncpngfaimipdaaGreatDoorKH
namespace Go.Fl
open Go Go.Ev
set_option maxRecDepth 100000
structure FineM (m:Mp):Prop where
 nodup:(m.map (·.1)).Nodup
 few:m.length<=16
 fine:∀ (k:Tx) u,zG .str m k=some u->Fine (usr u)/\u.1=k
theorem FineM.nil:FineM []:=⟨List.nodup_nil,Nat.zero_le _,λk u h=>by cases h⟩
theorem FineM.set {m:Mp} (G:FineM m) {k:Tx} {u:Usr} (hl:(za .str m k (u.1,(u.2.1,(u.2.2.1,())))).length<=16) (hu:Fine u) (hk:u.1=k):FineM (za .str m k (u.1,(u.2.1,(u.2.2.1,())))) where
 nodup:=uz KE_str G.nodup
 few:=hl
 fine:=λk' u' h=>by
  rw [vw KE_str G.nodup] at h
  cases hq:yf .str k' k with
  | true =>
   rw [hq,zH,xC] at h
   subst h
   have:k'=k:=(KE_str k' k).1 hq
   exact ⟨hu,hk.trans this.symm⟩
  | false =>
   rw [hq,zK] at h
   exact G.fine k' u' h
theorem FineM.del {m:Mp} (G:FineM m) (k:Tx):FineM (yZ .str m k) where
 nodup:=mapDel_nd (t:=.str) G.nodup
 few:=Nat.le_trans (mapDel_sub (t:=.str) m k).length_le G.few
 fine:=λk' u' h=>by
  rw [mapGet_del KE_str G.nodup] at h
  cases hq:yf .str k' k with
  | true=>rw [hq,zH] at h;cases h
  | false =>
   rw [hq,zK] at h
   exact G.fine k' u' h
theorem come_fine {m:Mp} (G:FineM m) {u:Usr} (hu:Fine u):FineM (come m u).2:=by
 unfold come
 split
 ·exact G
 ·rename_i h1
  split
  ·exact G
  ·rename_i h2
   refine G.set ?_ hu rfl
   rw [vu KE_str]
   have:=G.few
   cases (zG .str m u.1).isSome
   ·simp only [zK];omega
   ·simp only [zH];omega
theorem kept_fine {m:Mp} (G:FineM m) {user:Tx} {u:Tx×(Int×(List Bx×Unit))} (hm:zG .str m user=some u) (r:Usr×Int×Int×Unit) (h:r.2.2.1=0->Fine r.1/\r.1.1=user):FineM (kept m user r).2:=by
 unfold kept
 simp only
 split
 ·rename_i h0
  refine G.set ?_ (h h0).1 (h h0).2
  rw [vu KE_str,hm]
  exact G.few
 ·exact G
theorem F92_enter (m:Mp) (d:Dd) (u:Usr) (hc:xl ((d,()),())=some (0,())) (h8:d.1=8) (h75:F119 ((d.2.2.2.2.2.2.2.2.2.1,()),())=some ((u,0,()),())) :
  F92 ((true,d,()),(((),()),m,()))=some ((0,(come m u).1,()),(((),()),(come m u).2,())):=by
 obtain ⟨dd,du,db,dt,uid,how,fl,ds,de,by',⟨⟩⟩:=d
 obtain ⟨un,uv,ls,⟨⟩⟩:=u
 simp only at h8 h75
 subst h8
 have e74:=F118_eq m (un,uv,ls,())
 simp only [F92,hc,zE,zV,yA,zK,zH,zS,show decide ((8:Int)=1)=false from rfl,h75,e74]
theorem tq (m:Mp) (d:Dd) (u:Tx×(Int×(List Bx×Unit))) (R:Usr×Int×Int×Unit) (hc:xl ((d,()),())=some (0,())) (h7:d.1=7) (hm:zG .str m d.2.1=some u)
  (h77:uj ((usr u,d,()),())=some (R,())) :
  F92 ((true,d,()),(((),()),m,()))=some ((kept m d.2.1 R).1,(((),()),(kept m d.2.1 R).2,())):=by
 obtain ⟨dd,du,db,dt,uid,how,fl,ds,de,by',⟨⟩⟩:=d
 obtain ⟨un,uv,ls,⟨⟩⟩:=u
 obtain ⟨⟨ru,rv,rl,⟨⟩⟩,rn,re,⟨⟩⟩:=R
 simp only at h7 hm
 subst h7
 unfold usr at h77
 simp only at h77
 simp only [F92,hc,zE,zV,yA,zK,zH,zS,hm,show decide ((7:Int)=1)=false from rfl,show decide ((7:Int)=8)=false from rfl,show decide ((7:Int)=2)=false from rfl,show decide ((7:Int)=3)=false from rfl,Option.isSome_some,Option.getD_some,h77,kept]
 by_cases hr:re=0
 ·simp [hr]
 ·simp [hr]
theorem F92_leave (m:Mp) (d:Dd) (u:Tx×(Int×(List Bx×Unit))) (hc:xl ((d,()),())=some (0,())) (h9:d.1=9) (hm:zG .str m d.2.1=some u) :
  F92 ((true,d,()),(((),()),m,()))=some ((0,0,()),(((),()),yZ .str m d.2.1,())):=by
 obtain ⟨dd,du,db,dt,uid,how,fl,ds,de,by',⟨⟩⟩:=d
 obtain ⟨un,uv,ls,⟨⟩⟩:=u
 simp only at h9 hm
 subst h9
 simp only [F92,hc,zE,zV,yA,zK,zH,zS,hm,show decide ((9:Int)=1)=false from rfl,show decide ((9:Int)=8)=false from rfl,show decide ((9:Int)=2)=false from rfl,show decide ((9:Int)=3)=false from rfl,show decide ((9:Int)=7)=false from rfl,Option.isSome_some,Option.getD_some]
theorem F92_fine {m:Mp} (G:FineM m) (d:Dd) (hu:d.2.1.length<=1100000) (ht:d.2.2.2.1.length<=1100000) :
  ∃ n e m',F92 ((true,d,()),(((),()),m,()))=some ((n,e,()),(((),()),m',()))/\FineM m':=by
 obtain ⟨e0,hc,hC⟩:=F117_ex d (Nat.le_trans hu (by decide))
 by_cases he0:e0=0
 ·subst he0
  obtain ⟨C,hE⟩:=hC rfl
  by_cases h1:d.1=1
  ·exact ⟨_,_,_,F92_open m d hc h1,come_fine G (new_fine C.user)⟩
  ·by_cases h8:d.1=8
   ·obtain ⟨u,h75,_,hF⟩:=hE h8
    exact ⟨_,_,_,F92_enter m d u hc h8 h75,come_fine G hF⟩
   ·cases hm:zG .str m d.2.1 with
    | none=>exact ⟨_,_,_,F92_gone m d hc h1 h8 hm,G⟩
    | some u =>
     obtain ⟨Fu,hk⟩:=G.fine d.2.1 u hm
     have Gu:Good u:=Fu.good
     by_cases h23:d.1=2\/d.1=3
     ·obtain ⟨lo,e1,e2,e3,e4,e5,e6⟩:=F120_eq u d (Nat.le_trans Gu.few (by decide)) Gu.rise
      refine ⟨_,_,_,F92_shape m d u lo hc h23 hm e1,kept_fine G hm _ λhe=>?_⟩
      by_cases h2:d.1=2
      ·obtain ⟨q1,q2⟩:=make_fine Fu d h2 e2 e3 e4 e6 (C.box h2) he
       exact ⟨q1,q2.trans hk⟩
      ·obtain ⟨q1,q2⟩:=drop_fine Fu d h2 e5 he
       exact ⟨q1,q2.trans hk⟩
     ·rw [not_or] at h23
      by_cases h7:d.1=7
      ·obtain ⟨R,e1,e2⟩:=F121_ex Fu d ht
       refine ⟨_,_,_,tq m d u R hc h7 hm e1,kept_fine G hm _ λhe=>?_⟩
       obtain ⟨q1,q2⟩:=e2 he
       exact ⟨q1,q2.trans hk⟩
      ·by_cases h9:d.1=9
       ·exact ⟨_,_,_,F92_leave m d u hc h9 hm,G.del _⟩
       ·rcases F122_eq u d (Nat.le_trans Gu.few (by decide)) Gu.len Gu.rise with ⟨_,e1⟩ | ⟨lo,l1,l2,e1⟩
        ·exact ⟨_,_,_,F92_box m d u _ hc h1 h23.1 h23.2 h7 h8 h9 hm e1,kept_fine G hm _ λh=>absurd h (by simp)⟩
        ·refine ⟨_,_,_,F92_box m d u _ hc h1 h23.1 h23.2 h7 h8 h9 hm e1,kept_fine G hm _ λhe=>?_⟩
         obtain ⟨q1,q2⟩:=boxd_fine Fu l1 d he
         exact ⟨q1,q2.trans hk⟩
 ·exact ⟨0,e0,m,F92_bad m d e0 hc he0,G⟩
abbrev Small (d:Dd):Prop:=d.2.1.length<=1100000/\d.2.2.2.1.length<=1100000
abbrev R27:Type:=((Bool×Unit×Unit)×((Unit×Unit)×Mp×(List Int)×Unit))⊕((Bool×Unit×Int×Int×Unit)×((Unit×Unit)×Mp×(List Int)×Unit))
theorem L72_ex {m:Mp} (G:FineM m) (l:List Dd) (hs:∀ d∈l,Small d) (hl:l.length<=12) :
  ∃ r:R27,L72_0 ((true,(),l,((l.length:Nat):Int),(0:Int),()),(((),()),m,([]:List Int),()))=some r /\
   match r with
   | .inl q=>∃ m' o,q=((true,(),()),(((),()),m',o,()))/\FineM m'
   | .inr q=>∃ i e m' o,q=((true,(),i,e,()),(((),()),m',o,()))/\FineM m':=by
 have hF:=zO
 unfold L72_0
 refine yD (f:=wX) (λp=>∃ (i:Nat) (m':Mp) (o:List Int),i<=l.length/\o.length<=i/\FineM m'/\p=((true,(),l,((l.length:Nat):Int),(i:Int),()),(((),()),m',o,()))) (λp=>l.length-p.1.2.2.2.2.1.toNat) _ ?_
  ⟨0,m,[],Nat.zero_le _,Nat.le_refl _,G,rfl⟩ (by simp only;omega)
 rintro p ⟨i,m',o,hi,ho,G',rfl⟩
 rcases Nat.lt_or_ge i l.length with h | h
 ·have d0:decide ((i:Int)<((l.length:Nat):Int))=true:=zX (by omega)
  have d1:decide ((0:Int)<=(i:Int))=true:=zX (by omega)
  have w1:zZ ((i:Int)+1)=((i+1:Nat):Int):=by rw [zQ (by omega) (by omega)];rfl
  obtain ⟨d,hd⟩:∃ d,l[i]=d:=⟨_,rfl⟩
  have hg:∀ z,l.getD i z=d:=λz=>by rw [xo,List.getElem?_eq_getElem h,hd];rfl
  have hm:Small d:=hs d (by rw [<- hd];exact List.getElem_mem h)
  obtain ⟨n,e,m2,h48,G2⟩:=F92_fine G' d hm.1 hm.2
  obtain ⟨dd,du,db,dt,uid,how,fl,ds,de,by',⟨⟩⟩:=d
  by_cases he:e=0
  ·subst he
   left
   have hb:zC (o.length+[n].length) 8=true:=zU (by simp only [vx];omega)
   refine ⟨_,by simp only [wX,d0,d1,yE,zH,zE,zu,hg,h48,zV,yA,zK,hb,w1];rfl,⟨i+1,m2,_,h,?_,G2,rfl⟩,?_⟩
   ·rw [yS,vx];omega
   ·simp only;omega
  ·right
   refine ⟨.inr ((true,(),(i:Int),e,()),(((),()),m2,[],())),?_,_,_,_,_,rfl,G2⟩
   simp only [wX,d0,d1,yE,zH,zE,zu,hg,h48,z7 he,yx]
 ·have hi':i=l.length:=by omega
  subst hi'
  right
  refine ⟨.inl ((true,(),()),(((),()),m',o,())),?_,_,_,rfl,G'⟩
  simp only [wX,Int.lt_irrefl,yu,zK]
theorem F22_eq {m:Mp} {name:Tx} {u:Tx×(Int×(List Bx×Unit))} (hm:zG .str m name=some u) (G:Good (usr u)) :
  F22 ((some (m,()),name,()),())=some (((u.1,u.2.1,(),()),0,()),(u.2.2.1,())):=by
 obtain ⟨un,uv,ls,⟨⟩⟩:=u
 have hF:=zO
 have hl:ls.length<=6:=G.few
 have e30:=F37_eq ls (by omega)
 have hL:∀ xs:List Bx,L22_0 (((),(),(),((ls.length:Nat):Int),(0:Int),()),(((),(),(),()),(un,uv,(),()),ls,xs,()))=some (((),(),()),(((),(),(),()),(un,uv,(),()),xs,ls,())):=λxs=>by
  unfold L22_0
  refine (yi (f:=B22_0) (λ(_:Unit) i=>(((),(),(),((ls.length:Nat):Int),(i:Int),()),(((),(),(),()),(un,uv,(),()),ls,xs,()))) ls (λ_ _=>.inl ()) (λ_=>(((),(),()),(((),(),(),()),(un,uv,(),()),xs,ls,())))
   (λb i a hi ha=>?_) (λb=>?_) (by omega) (b:=())).trans ?_
  ·have hma:a∈ls:=by
    have:=ha yH
    rw [xo,List.getElem?_eq_getElem hi] at this
    rw [<- this]
    exact List.getElem_mem hi
   have R:=G.each a hma
   have e31:=F38_eq (yI a) R.few λl hl'=>(R.each l hl').2.2.2
   unfold yI at e31
   have d0:decide ((i:Int)<((ls.length:Nat):Int))=true:=zX (by omega)
   have d1:decide ((0:Int)<=(i:Int))=true:=zX (by omega)
   have w1:zZ ((i:Int)+1)=((i+1:Nat):Int):=by rw [zQ (by omega) (by omega)];rfl
   have hset:ls.set i (a.1,(a.2.1,(a.2.2.1,(a.2.2.2.1,()))))=ls:=set_same ls i _ ha
   simp only [B22_0,d0,d1,yE,zH,zE,zu,ha,e31,hset,w1]
  ·simp only [B22_0,Int.lt_irrefl,yu,zK]
  ·have:∀ (l:List Bx) (z:(Unit×Unit×Unit)×((Unit×Unit×Unit×Unit)×(Tx×Int×Unit×Unit)×List Bx×List Bx×Unit)),zd (λ(_:Bx) (_:Unit)=>(.inl ():Unit⊕_)) (λ_=>z) () l=z:=λl z=>by
    induction l with
    | nil=>rfl
    | cons a t ih=>exact ih
   rw [this]
 simp only [F22,Option.isNone_some,yA,zK,zH,zE,List.getD_cons_zero,hm,Option.isSome_some,Option.getD_some,e30,hL]
theorem L67_eq (nm:List UInt8) (v n:Int) (ls:List Ltr) (hl:ls.length<=32):L67_0 (((),(0:Int),()),((nm,v,n,ls,()),()))=some (chk n ls):=by
 have hF:=zO
 refine zq (f:=B67_0) (λ(_:Int) i=>(((),(i:Int),()),((nm,v,n,ls,()),()))) ls (chk1 n) _ (λb i=>0<=b/\(i=0->b=0)/\(∀ d,0<i->(ls.getD (i-1) d).1=b))
  (λb i a hI hi ha=>?_) (λb _=>?_) (by omega) ⟨by omega,λ_=>rfl,λ_ h=>absurd h (Nat.lt_irrefl _)⟩
 ·obtain ⟨hb,hb0,hbp⟩:=hI
  have hw:0<i->zZ ((i:Int)-1)=((i-1:Nat):Int):=λh=>by
   rw [zQ (by omega) (by omega)];omega
  have hc:(decide (a.1<(1:Int))||decide (n<=a.1)||(decide ((0:Int)<(i:Int))&&decide (a.1<=(ls.getD (Int.toNat (zZ ((i:Int)-1))) ((0:Int),((0:UInt8),(([]:(List UInt8)),())))).1)))=decide (a.1<=b\/n<=a.1):=by
   by_cases h0:0<i
   ·rw [hw h0,zu,hbp _ h0]
    rw [Bool.eq_iff_iff]
    simp only [Bool.or_eq_true,yo,xh]
    omega
   ·have:=hb0 (by omega)
    rw [Bool.eq_iff_iff]
    simp only [Bool.or_eq_true,yo,xh]
    omega
  have hg:(((decide ((0:Int)<=(zZ ((i:Int)-(1:Int)))))&&(decide ((zZ ((i:Int)-(1:Int)))<(((List.length ls):Nat):Int))))||(!((decide ((0:Int)<(i:Int)))&&(!((decide (a.1<(1:Int)))||(decide (n<=a.1)))))))=true:=by
   by_cases h0:0<i
   ·rw [hw h0,yY,ym]
    simp;omega
   ·simp [h0]
  simp only [B67_0,ym,yY,hi,zV,Bool.and_true,zH,zE,zu,ha]
  rw [hg,hc]
  simp only [zH,zE]
  unfold chk1
  by_cases h1:a.1<=b\/n<=a.1
  ·exact .inr ⟨_,if_pos h1,by simp [h1]⟩
  ·simp only [h1,↓reduceIte]
   by_cases h2:32<=a.2.1.toNat
   ·exact .inr ⟨_,if_pos h2,by
     have h2':31<a.2.1.toNat:=by omega
     simp [h2']⟩
   ·have h2':¬ 31<a.2.1.toNat:=by omega
    rw [if_neg h2]
    by_cases h3:600<a.2.2.1.length
    ·have h3':(600:Int)<(a.2.2.1.length:Int):=by omega
     exact .inr ⟨_,if_pos h3,by simp [h2',h3']⟩
    ·have h3':¬ (600:Int)<(a.2.2.1.length:Int):=by omega
     exact .inl ⟨_,if_neg h3,⟨by omega,by omega,λd _=>by rw [Nat.add_sub_cancel,ha]⟩,by simp [h2',h3',zQ (n:=(i:Int)+1) (by omega) (by omega)]⟩
 ·simp only [B67_0,Int.lt_irrefl,yu,zK]
theorem F34c_eq (b:Box):F67 ((b,()),())=some (y3 b,()):=by
 obtain ⟨nm,v,n,ls,u⟩:=b
 cases u
 simp only [F67,y3]
 by_cases h1:v<1\/4294967295<v\/n<1\/4294967295<n
 ·have e:(decide (v<(1:Int))||decide ((4294967295:Int)<v)||decide (n<(1:Int))||decide ((4294967295:Int)<n))=true:=by
   simp only [Bool.or_eq_true,xh];omega
  simp only [h1,↓reduceIte,e,zH]
 ·have e:(decide (v<(1:Int))||decide ((4294967295:Int)<v)||decide (n<(1:Int))||decide ((4294967295:Int)<n))=false:=by
   simp only [Bool.or_eq_false_iff,decide_eq_false_iff_not];omega
  simp only [h1,↓reduceIte,e,zK]
  by_cases h3:32<ls.length
  ·have h3':(32:Int)<(ls.length:Int):=by omega
   simp [h3,h3']
  ·have h3':¬ (32:Int)<(ls.length:Int):=by omega
   simp only [h3,h3',L67_eq nm v n ls (by omega),yu,zK,zE,↓reduceIte]
   cases chk n ls <;> rfl
theorem F105_eq (b:Box) (f:UInt8) (p:List UInt8):F105 ((b,f,p,()),())=some (add b f p,()):=by
 have e34:=F34c_eq b
 have ez:=check_zero (b:=b)
 obtain ⟨nm,v,n,ls,u⟩:=b
 cases u
 unfold add
 simp only [F105,e34,zE]
 generalize hc:y3 (nm,v,n,ls,())=c at *
 by_cases h0:c=0
 ·have R:=ez.mp h0
  have hr:=R.few
  have hn:=R.next
  simp only at hr hn
  simp only [h0,ne_eq,not_true_eq_false,↓reduceIte,zV,yA,zK]
  by_cases h1:32<=f.toNat
  ·have h1':31<f.toNat:=by omega
   simp [h1,h1',empty]
  ·have h1':¬ 31<f.toNat:=by omega
   by_cases h2:600<p.length
   ·have h2':(600:Int)<(p.length:Int):=by omega
    simp [h1,h1',h2,h2',empty]
   ·have h2':¬ (600:Int)<(p.length:Int):=by omega
    by_cases h3:ls.length=32\/n=4294967295
    ·have h3':(decide ((31:Int)<((ls.length:Nat):Int))||decide (4294967294<n))=true:=by
      simp only [Bool.or_eq_true,xh];omega
     simp [h1,h1',h2,h2',h3,h3',empty]
    ·have h3':(decide ((31:Int)<((ls.length:Nat):Int))||decide (4294967294<n))=false:=by
      simp only [Bool.or_eq_false_iff,decide_eq_false_iff_not];omega
     have hb:zC (ls.length+1) 40=true:=zU (by omega)
     have hb1:zC ls.length 40=true:=zU (by omega)
     have hb2:zC p.length 1=true:=zU (by omega)
     simp only [show UInt8.toNat 31=31 from rfl,h1,h1',h2,h2',h3,h3',yu,zK,zE,↓reduceIte,List.length_cons,List.length_nil,Nat.zero_add,hb,hb1,hb2,zH,List.nil_append,
      zQ (n:=n+1) (by omega) (by omega),zS]
 ·simp [h0,empty]
def wthL (uid:Int) (l:List Ltr) (a:Ltr):List Ltr:=if a.1=uid then l else [a]
def stp88 (uid:Int) (l:List Ltr) (a:Ltr) (b:Bool×List Ltr):(Bool×List Ltr)⊕((Unit×Unit×Bool×Unit)×((Unit×Unit×Unit×Unit×Unit)×((List UInt8)×Int×Int×Unit×Unit)×List Ltr×List Ltr×Unit)) :=
 .inl (b.1||decide (a.1=uid),b.2++wthL uid l a)
theorem fold88 (uid:Int) (l:List Ltr) (fin):∀ (ls:List Ltr) (b:Bool×List Ltr),zd (stp88 uid l) fin b ls=fin (b.1||has ls uid,b.2++ls.flatMap (wthL uid l))
 | [],b=>by simp [zd,has]
 | a::t,b=>by
  simp only [zd,stp88]
  rw [fold88 uid l fin t]
  simp [has,Bool.or_assoc]
theorem F128_eq (b:Box) (uid:Int) (l:List Ltr) (hl:b.2.2.2.1.length<=32) (h1:l.length<=1) :
  F128 ((b,uid,l,()),())=some (((b.1,b.2.1,b.2.2.1,b.2.2.2.1.flatMap (wthL uid l),()),has b.2.2.2.1 uid,()),()):=by
 obtain ⟨nm,v,n,ls,u⟩:=b
 cases u
 have hF:=zO
 change ls.length<=32 at hl
 have h:L128_0 ((uid,l,(),(),(),false,(0:Int),()),((nm,v,n,ls,()),((),(),(),(),()),(nm,v,n,(),()),[],[],()))=some (zd (stp88 uid l) (λb=>(((),(),b.1,()),(((),(),(),(),()),(nm,v,n,(),()),[],b.2,()))) (false,[]) ls):=by
  refine zq (f:=B128_0) (λ(b:Bool×List Ltr) i=>((uid,l,(),(),(),b.1,(i:Int),()),((nm,v,n,ls,()),((),(),(),(),()),(nm,v,n,(),()),[],b.2,()))) ls (stp88 uid l) _ (λb i=>b.2.length<=i) (b:=(false,[]))
   (λb i a hI hi ha=>.inl ⟨_,rfl,?_,?_⟩) (λb _=>?_) (by omega) (Nat.le_refl _)
  ·simp only [yS,wthL]
   split
   ·omega
   ·simp only [List.length_cons,List.length_nil];omega
  ·have hb1:zC (b.2.length+l.length) 40=true:=zU (by omega)
   have hb2:zC (b.2.length+1) 40=true:=zU (by omega)
   simp only [B128_0,ym,yY,hi,zV,Bool.and_true,zH,zE,zu,ha,List.length_cons,List.length_nil,Nat.zero_add,hb1,hb2,wthL]
   by_cases hc:a.1=uid
   ·simp only [hc,zV,zH,zE,Bool.or_true,↓reduceIte,yL (show i<9223372036854775807 by omega)]
   ·simp only [hc,yu,zK,zE,Bool.or_false,↓reduceIte,yL (show i<9223372036854775807 by omega)]
  ·simp only [B128_0,Int.lt_irrefl,yu,zK]
 rw [fold88] at h
 simp only [F128,h,zE,Bool.false_or,List.nil_append]
theorem flat_filter (uid:Int):∀ (ls:List Ltr),ls.flatMap (wthL uid [])=ls.filter (keep uid)
 | []=>rfl
 | a::t=>by
  rw [List.flatMap_cons,flat_filter uid t,List.filter_cons]
  by_cases h:a.1=uid <;> simp [wthL,keep,h]
theorem F107_eq (b:Box) (uid:Int):F107 ((b,uid,()),())=some (cut b uid,()):=by
 have e34:=F34c_eq b
 have e88:=F128_eq b uid []
 have ez:=check_zero (b:=b)
 obtain ⟨nm,v,n,ls,u⟩:=b
 cases u
 unfold cut
 simp only [F107,e34,zE]
 generalize hc:y3 (nm,v,n,ls,())=c at *
 by_cases h0:c=0
 ·have R:=ez.mp h0
  simp only [h0,ne_eq,not_true_eq_false,↓reduceIte,zV,yA,zK,e88 R.few (Nat.zero_le _),zE,flat_filter]
  cases hh:has ls uid
  ·simp [empty]
  ·simp
 ·simp [h0,empty]
theorem bits_all:((List.range 32).all λx=>(List.range 32).all λy=>decide (bits 0 (UInt8.ofNat x) (UInt8.ofNat y)=lay 0 (UInt8.ofNat x) (UInt8.ofNat y))&&decide (bits 1 (UInt8.ofNat x) (UInt8.ofNat y)=lay 1 (UInt8.ofNat x) (UInt8.ofNat y))&&decide (bits 2 (UInt8.ofNat x) (UInt8.ofNat y)=lay 2 (UInt8.ofNat x) (UInt8.ofNat y)))=true:=by kernel_rfl
theorem bits_eq {how:Int} {was f:UInt8} (h1:0<=how) (h2:how<=2) (hw:was.toNat<32) (hf:f.toNat<32):bits how was f=lay how was f:=by
 have h:=List.all_eq_true.mp (List.all_eq_true.mp bits_all was.toNat (List.mem_range.mpr hw)) f.toNat (List.mem_range.mpr hf)
 rw [UInt8.ofNat_toNat,UInt8.ofNat_toNat,yo,yo,xh,xh,xh] at h
 obtain rfl | rfl | rfl:how=0\/how=1\/how=2:=by omega
 ·exact h.1.1
 ·exact h.1.2
 ·exact h.2
theorem tE (b:Box) (uid how:Int) (f is bit:UInt8) (l:Ltr) (ks:List Ltr) (hb:bit.toNat<32) (h0:bit≠0) :
  B106_1 ((uid,how,f,(),(),(),is,bit,()),(b,((),(),(),(),()),l,ks,()))=some (.inl ((uid,how,f,(),(),(),stpB how l.2.1 f bit is,bit*2,()),(b,((),(),(),(),()),l,ks,()))):=by
 have h2:decide ((2:UInt8)≠0)=true:=rfl
 have hb':decide (bit.toNat<UInt8.toNat 32)=true:=zX hb
 have h0':decide (bit≠0)=true:=zX h0
 simp only [B106_1,hb',h0',h2,zH,zE,stpB]
 generalize hq:(decide (how=0)&&decide (f/bit % 2=1)||decide (how=1)&&(decide (l.2.1/bit % 2=1)||decide (f/bit % 2=1))||decide (how=2)&&decide (l.2.1/bit % 2=1)&&!decide (f/bit % 2=1))=q
 cases q
 ·simp only [zK,zE,Bool.false_eq_true,↓reduceIte]
 ·simp only [zH,zE,↓reduceIte]
theorem u4 {σ τ:Type} {f:σ->Option (σ⊕τ)} {p q:σ} {n:Nat} (h:f p=some (.inl q)):iter f (n+1) p=iter f n q:=by
 simp only [iter,h]
theorem L106_1_eq (b:Box) (uid how:Int) (f:UInt8) (l:Ltr) (ks:List Ltr) :
  L106_1 ((uid,how,f,(),(),(),0,1,()),(b,((),(),(),(),()),l,ks,()))=some ((uid,(),(),(),bits how l.2.1 f,()),(b,((),(),(),(),()),l,ks,())):=by
 change iter B106_1 (9223372036854775802+1+1+1+1+1+1) _=_
 rw [u4 (tE b uid how f _ 1 l ks (by decide) (by decide)),u4 (tE b uid how f _ (1*2) l ks (by decide) (by decide)),u4 (tE b uid how f _ (1*2*2) l ks (by decide) (by decide)),
  u4 (tE b uid how f _ (1*2*2*2) l ks (by decide) (by decide)),u4 (tE b uid how f _ (1*2*2*2*2) l ks (by decide) (by decide))]
 have e:decide (UInt8.toNat (1*2*2*2*2*2)<UInt8.toNat 32)=false:=by decide
 simp only [iter,B106_1,e,zK]
 rfl
abbrev R67:Type:=((Unit×Unit)×((Unit×Unit×Unit×Unit×Unit)×List Ltr×Unit))⊕((Unit×Unit×Unit)×((List UInt8)×Int×Int×List Ltr×Unit)×Unit)
def stp67 (nm:List UInt8) (v n:Int) (ls:List Ltr) (uid how:Int) (f:UInt8) (a:Ltr) (_:Unit):Unit⊕R67 :=
 if a.1=uid then .inr (.inr (((),(),()),((nm,v,n,ls.flatMap (wthL uid [(a.1,bits how a.2.1 f,a.2.2.1,())]),()),()))) else .inl ()
theorem L106_0_eq (nm:List UInt8) (v n:Int) (ls:List Ltr) (uid how:Int) (f:UInt8) (hl:ls.length<=32) :
  L106_0 ((uid,how,f,(),(),(0:Int),()),((nm,v,n,ls,()),((),(),(),(),()),[],()))=some (zd (stp67 nm v n ls uid how f) (λ_=>.inl (((),()),(((),(),(),(),()),[],()))) () ls):=by
 have hF:=zO
 refine yi (f:=B106_0) (λ(_:Unit) i=>((uid,how,f,(),(),(i:Int),()),((nm,v,n,ls,()),((),(),(),(),()),[],()))) ls (stp67 nm v n ls uid how f) _ (λb i a hi ha=>?_) (λb=>?_) (by omega)
 ·have e88:=F128_eq (nm,v,n,ls,()) uid [(a.1,bits how a.2.1 f,a.2.2.1,())] hl (by simp)
  have e67:=L106_1_eq (nm,v,n,ls,()) uid how f (a.1,a.2.1,a.2.2.1,()) []
  simp only at e88 e67
  simp only [B106_0,ym,yY,hi,zV,Bool.and_true,zH,zE,zu,ha,stp67]
  by_cases hc:a.1=uid
  ·simp only [hc,zV,yA,zK,↓reduceIte]
   rw [hc] at e67 e88
   rw [e67]
   simp only [zE]
   rw [e88]
   simp only [zE]
  ·simp only [hc,yu,yx,zH,↓reduceIte,yL (show i<9223372036854775807 by omega)]
 ·simp only [B106_0,Int.lt_irrefl,yu,zK]
theorem flat_map {ls:List Ltr} (h:ls.Pairwise (λa b=>a.1<b.1)) {uid:Int} {a:Ltr} (ha:a∈ls) (he:a.1=uid) (g:Ltr->Ltr) :
  ls.flatMap (wthL uid [g a])=ls.map λx=>if x.1=uid then g x else x:=by
 have:∀ t:List Ltr,(∀ x∈t,x∈ls)->t.flatMap (wthL uid [g a])=t.map λx=>if x.1=uid then g x else x:=by
  intro t
  induction t with
  | nil=>intro _;rfl
  | cons x t ih =>
   intro hx
   rw [List.flatMap_cons,ih (λy hy=>hx y (List.mem_cons_of_mem _ hy)),List.map_cons]
   by_cases hq:x.1=uid
   ·obtain ⟨i,hi,hi2⟩:=List.getElem_of_mem ha
    obtain ⟨j,hj,hj2⟩:=List.getElem_of_mem (hx x (List.mem_cons_self ..))
    have:i=j:=rise_inj h hi hj (by rw [hi2,hj2,he,hq])
    subst this
    obtain rfl:a=x:=by rw [<- hi2,<- hj2]
    simp [wthL,hq]
   ·simp [wthL,hq]
 exact this ls λ_ h=>h
theorem fold67 (nm:List UInt8) (v n:Int) (ls:List Ltr) (uid how:Int) (f:UInt8) (z:R67) (hr:ls.Pairwise (λa b=>a.1<b.1)) (h32:∀ l∈ls,l.2.1.toNat<32) (h1:0<=how) (h2:how<=2) (hf:f.toNat<32) :
  ∀ t:List Ltr,(∀ x∈t,x∈ls)->zd (stp67 nm v n ls uid how f) (λ_=>z) () t=if has t uid then .inr (((),(),()),((nm,v,n,ls.map (relay uid how f),()),())) else z
 | [],_=>rfl
 | a::t,hx=>by
  by_cases hc:a.1=uid
  ·have hm:=hx a (List.mem_cons_self ..)
   have e:=flat_map hr hm hc (λa=>(a.1,lay how a.2.1 f,a.2.2.1,()))
   have hb:=bits_eq h1 h2 (h32 a hm) hf
   simp only [zd,stp67,hc,↓reduceIte,has,List.any_cons,zV,Bool.true_or,hb]
   rw [hc] at e
   rw [e]
   have hm:(λa:Ltr=>if a.1=uid then (a.1,lay how a.2.1 f,a.2.2.1,()) else a)=relay uid how f:=rfl
   rw [hm]
  ·have ih:=fold67 nm v n ls uid how f z hr h32 h1 h2 hf t (λy hy=>hx y (List.mem_cons_of_mem _ hy))
   simp only [zd,stp67,hc,↓reduceIte,has,List.any_cons,yu,Bool.false_or]
   exact ih
theorem F106_eq (b:Box) (uid how:Int) (f:UInt8):F106 ((b,uid,how,f,()),())=some (flag b uid how f,()):=by
 have e34:=F34c_eq b
 have ez:=check_zero (b:=b)
 obtain ⟨nm,v,n,ls,u⟩:=b
 cases u
 unfold flag
 simp only [F106,e34,zE]
 generalize hc:y3 (nm,v,n,ls,())=c at *
 by_cases h0:c=0
 ·have R:=ez.mp h0
  simp only [h0,ne_eq,not_true_eq_false,↓reduceIte,zV,yA,zK]
  by_cases hb:how<0\/2<how\/32<=f.toNat
  ·have e:((!decide (how=0))&&(!decide (how=1))&&(!decide (how=2))||decide (UInt8.toNat 31<f.toNat))=true:=by
    simp only [Bool.or_eq_true,yo,Bool.not_eq_true',decide_eq_false_iff_not,xh,show UInt8.toNat 31=31 from rfl];omega
   simp only [e,zH,hb,↓reduceIte,empty]
  ·have e:((!decide (how=0))&&(!decide (how=1))&&(!decide (how=2))||decide (UInt8.toNat 31<f.toNat))=false:=by
    obtain rfl | rfl | rfl:how=0\/how=1\/how=2:=by omega
    all_goals
     simp only [Bool.or_eq_false_iff,decide_eq_false_iff_not,show UInt8.toNat 31=31 from rfl]
     exact ⟨rfl,by omega⟩
   have e67:=fold67 nm v n ls uid how f (.inl (((),()),(((),(),(),(),()),[],()))) R.rise (λl hl=>(R.each l hl).2.2.1) (by omega) (by omega) (by omega) ls (λ_ h=>h)
   simp only [e,zK,hb,↓reduceIte,L106_0_eq nm v n ls uid how f R.few,e67,zE]
   cases hh:has ls uid
   ·simp [empty]
   ·simp
 ·simp [h0,empty]
theorem loop_sim {σ τ σ' τ':Type} {f:σ->Option (σ⊕τ)} {g:σ'->Option (σ'⊕τ')} (R:σ->σ'->Prop) (T:τ->τ'->Prop)
  (h:∀ p q,R p q->(f p=none/\g q=none)\/(∃ p' q',f p=some (.inl p')/\g q=some (.inl q')/\R p' q')\/(∃ r s,f p=some (.inr r)/\g q=some (.inr s)/\T r s)) :
  ∀ p q,R p q->(zR f p=none/\zR g q=none)\/∃ r s,zR f p=some r/\zR g q=some s/\T r s:=by
 have key:∀ n p q,R p q->(iter f n p=none/\iter g n q=none)\/∃ r s,iter f n p=some r/\iter g n q=some s/\T r s:=by
  intro n
  induction n with
  | zero=>intro p q _;left;exact ⟨by simp [iter],by simp [iter]⟩
  | succ n ih =>
   intro p q hR
   rcases h p q hR with ⟨h1,h2⟩ | ⟨p',q',h1,h2,h3⟩ | ⟨r,s,h1,h2,h3⟩
   ·left;simp [iter,h1,h2]
   ·simp only [iter,h1,h2]
    exact ih p' q' h3
   ·right;exact ⟨r,s,by simp [iter,h1],by simp [iter,h2],h3⟩
 exact λp q hR=>key FUEL p q hR
theorem L93_all (s:List UInt8):∀ (k i:Nat),s.length-i<k->(s.drop i).all okc=true->iter uI k ((s,(),()),((s,i),()))=some (.inl ((s,()),()))
 | 0,_,h,_=>absurd h (Nat.not_lt_zero _)
 | k+1,i,hk,ha=>by
  rw [iter]
  by_cases hi:i<s.length
  ·have hd:Utf8.decode ⟨s.toArray⟩ i=Lib.decodeL (s.drop i):=dec_at hi
   have hb:uI ((s,(),()),((s,i),()))=cond (!okn ((Lib.decodeL (s.drop i)).1:Int)) (some (Sum.inr (Sum.inr (((),()),())))) (some (Sum.inl ((s,(),()),((s,(i+(Lib.decodeL (s.drop i)).2)),())))):=by
    rw [<- hd]
    simp only [uI,hi,zV,zH]
    rfl
   rw [hb]
   have e:=drop_all hi
   rw [e,List.all_cons,yo] at ha
   obtain ⟨l1,l2⟩:=dec_low (s.drop i)
   have hlow:((s.drop i).getD 0 0).toNat<128:=by
    rcases Nat.lt_or_ge ((s.drop i).getD 0 0).toNat 128 with h' | h'
    ·exact h'
    ·exfalso
     have:=okn_big h'
     rw [<- okc_eq,e] at this
     simp only [List.getD_cons_zero] at this
     rw [this] at ha
     cases ha.1
   have hn:okn (((s.drop i).getD 0 0).toNat:Int)=true:=by
    rw [<- okc_eq,e]
    exact ha.1
   rw [l1 hlow]
   simp only [hn,yA,zK]
   exact L93_all s k (i+1) (by omega) ha.2
  ·simp only [uI,hi,yu,zK]
theorem uh (s:Tx) (hs:s.length<=maxLen):F93 ((s,()),())=some (yl s,()):=by
 obtain ⟨b,hb⟩:=F93_some s hs
 cases b with
 | true=>rw [hb,F93_good hb hs]
 | false =>
  cases hr:yl s with
  | false=>exact hb
  | true =>
   have hF:maxLen<FUEL:=by unfold maxLen FUEL;omega
   unfold yl at hr
   simp only [yo,xh] at hr
   have hL:L93_0 ((s,(),()),((s,0),()))=some (.inl ((s,()),())):=L93_all s FUEL 0 (by omega) (by rw [List.drop_zero];exact hr.1.1)
   have h1:s≠[]:=by
    intro h
    rw [h] at hr
    simp at hr
   have h2:((s.length:Nat):Int)<=24:=by omega
   simp only [F93,hL,zE,z7 h1,zX h2,yx,yE]
abbrev St44:Type:=(Unit×Int×Int×Bool×List Bx×Int×Int×Unit)×(Usr×Unit)
abbrev St13:Type:=(Unit×Bool×Int×Int×Int×Unit)×(Usr×Unit)
theorem L74_L13 (un:Tx) (uv:Int) (ls:List Bx) (hl:ls.length<=6) (hn:∀ b∈ls,b.1.length<=1100000) (p:St44) (q:St13)
  (h:∃ (i:Nat) (a b:Int) (o:Bool),i<=ls.length/\p=(((),a,b,o,ls,((ls.length:Nat):Int),(i:Int),()),((un,uv,ls,()),()))/\q=(((),o,a,b,(i:Int),()),((un,uv,ls,()),()))) :
  (L74_0 p=none/\L47_0 q=none)\/∃ (r:R44) (s:R13),L74_0 p=some r/\L47_0 q=some s /\
   ((∃ (a b:Int) (o:Bool),r=.inl ((a,b,o,()),())/\s=.inl ((o,a,b,()),()))\/∃ e:Int,r=.inr ((e,()),())/\s=.inr ((e,()),())):=by
 refine loop_sim (f:=uZ) (g:=B47_0) (λp q=>∃ (i:Nat) (a b:Int) (o:Bool),i<=ls.length/\p=(((),a,b,o,ls,((ls.length:Nat):Int),(i:Int),()),((un,uv,ls,()),()))/\q=(((),o,a,b,(i:Int),()),((un,uv,ls,()),())))
  (λ(r:R44) (s:R13)=>((∃ (a b:Int) (o:Bool),r=.inl ((a,b,o,()),())/\s=.inl ((o,a,b,()),()))\/∃ e:Int,r=.inr ((e,()),())/\s=.inr ((e,()),()))) ?_ p q h
 rintro p q ⟨i,a,b,o,hi,rfl,rfl⟩
 rcases Nat.lt_or_ge i ls.length with h | h
 ·have d0:decide ((i:Int)<((ls.length:Nat):Int))=true:=zX (by omega)
  have d1:decide ((0:Int)<=(i:Int))=true:=zX (by omega)
  have w1:zZ ((i:Int)+1)=((i+1:Nat):Int):=by rw [zQ (by omega) (by omega)];rfl
  obtain ⟨⟨bn,bv,bx,bl,⟨⟩⟩,hb⟩:∃ b,ls.getD i yH=b:=⟨_,rfl⟩
  have hgd:ls.getD i (([]:List UInt8),((0:Int),((0:Int),(([]:(List Ltr)),()))))=(bn,bv,bx,bl,()):=hb
  have hmem:(bn,bv,bx,bl,())∈ls:=by
   rw [<- hb,xo,List.getElem?_eq_getElem h]
   exact List.getElem_mem h
  have e70:=F94_eq bn
  have e33:=yw bn (hn _ hmem)
  have e71:=F95_eq (bn,bv,bx,bl,())
  have e34:=F34c_eq (bn,bv,bx,bl,())
  have g:((decide ((0:Int)<=zZ ((i:Int)-(1:Int)))&&decide (zZ ((i:Int)-(1:Int))<((ls.length:Nat):Int)))||(!(decide ((0:Int)<(i:Int))&&(!(!(zl bn))))))=true:=by
   cases i with
   | zero=>simp
   | succ j =>
    have w2:zZ (((j+1:Nat):Int)-1)=(j:Int):=by rw [zQ (by omega) (by omega)];omega
    rw [w2,zX (show (0:Int)<=(j:Int) by omega),zX (show (j:Int)<((ls.length:Nat):Int) by omega)]
    rfl
  obtain ⟨bad,hbad⟩:∃ x,((!(zl bn))||(decide ((0:Int)<(i:Int))&&(Op.bytesLess bn (ls.getD (Int.toNat (zZ ((i:Int)-(1:Int)))) (([]:List UInt8),((0:Int),((0:Int),(([]:(List Ltr)),()))))).1||decide (bn=(ls.getD (Int.toNat (zZ ((i:Int)-(1:Int)))) (([]:List UInt8),((0:Int),((0:Int),(([]:(List Ltr)),()))))).1))))=x:=⟨_,rfl⟩
  cases bad with
  | true =>
   right;right
   refine ⟨.inr ((4,()),()),.inr ((4,()),()),?_,?_,.inr ⟨4,rfl,rfl⟩⟩
   ·simp only [uZ,d0,d1,yE,zH,zu,hgd,zE,e70,g,hbad]
   ·simp only [B47_0,d0,d1,yE,zH,zu,hgd,zE,e33,g,hbad]
  | false =>
   by_cases hc:y3 (bn,bv,bx,bl,())=0
   ·have R:=check_zero.1 hc
    have e72:=F96_eq (bn,bv,bx,bl,()) (Nat.le_trans R.few (by decide))
    have e35:=F68_eq (bn,bv,bx,bl,()) R.few
    by_cases hv:uv<bv
    ·right;right
     refine ⟨.inr ((2,()),()),.inr ((2,()),()),?_,?_,.inr ⟨2,rfl,rfl⟩⟩
     ·simp only [uZ,d0,d1,yE,zH,zu,hgd,zE,e70,g,hbad,zK,e71,hc,zV,yA,zX hv]
     ·simp only [B47_0,d0,d1,yE,zH,zu,hgd,zE,e33,g,hbad,zK,e34,hc,zV,yA,zX hv]
    ·right;left
     refine ⟨(((),zZ (a+(bl.length:Int)),zZ (b+size bl),(o||decide (bn=inbx)),ls,((ls.length:Nat):Int),((i+1:Nat):Int),()),((un,uv,ls,()),())),
      (((),(o||decide (bn=inbx)),zZ (a+(bl.length:Int)),zZ (b+size bl),((i+1:Nat):Int),()),((un,uv,ls,()),())),?_,?_,i+1,_,_,_,h,rfl,rfl⟩
     ·simp only [uZ,d0,d1,yE,zH,zu,hgd,zE,e70,g,hbad,zK,e71,hc,zV,yA,z7 hv,e72,w1]
      rfl
     ·simp only [B47_0,d0,d1,yE,zH,zu,hgd,zE,e33,g,hbad,zK,e34,hc,zV,yA,z7 hv,e35,w1]
      rfl
   ·right;right
    refine ⟨.inr ((y3 (bn,bv,bx,bl,()),()),()),.inr ((y3 (bn,bv,bx,bl,()),()),()),?_,?_,.inr ⟨_,rfl,rfl⟩⟩
    ·simp only [uZ,d0,d1,yE,zH,zu,hgd,zE,e70,g,hbad,zK,e71,z7 hc,yx]
    ·simp only [B47_0,d0,d1,yE,zH,zu,hgd,zE,e33,g,hbad,zK,e34,z7 hc,yx]
 ·have hi':i=ls.length:=by omega
  subst hi'
  right;right
  refine ⟨.inl ((a,b,o,()),()),.inl ((o,a,b,()),()),?_,?_,.inl ⟨a,b,o,rfl,rfl⟩⟩
  ·simp only [uZ,Int.lt_irrefl,yu,zK]
  ·simp only [B47_0,Int.lt_irrefl,yu,zK]
theorem F47_F44 (u:Usr) (hu:u.1.length<=maxLen) (hn:∀ b∈u.2.2.1,b.1.length<=1100000):F47 ((u,()),())=F74 ((u,()),()):=by
 obtain ⟨un,uv,ls,⟨⟩⟩:=u
 simp only [F47,F74,uF un hu,uh un hu,zE]
 cases yl un with
 | false=>rfl
 | true =>
  simp only [yA,zK]
  cases (decide (uv<1)||decide (4294967295<uv)) with
  | true=>rfl
  | false =>
   simp only [zK]
   have e:decide (((ls.length:Nat):Int)<1)=decide (((ls.length:Nat):Int)=0):=by rw [decide_eq_decide];omega
   rw [e]
   cases h2:(decide (((ls.length:Nat):Int)=0)||decide ((6:Int)<((ls.length:Nat):Int))) with
   | true=>rfl
   | false =>
    simp only [zK]
    rw [Bool.or_eq_false_iff,decide_eq_false_iff_not,decide_eq_false_iff_not] at h2
    rcases L74_L13 un uv ls (by omega) hn (((),(0:Int),(0:Int),false,ls,((ls.length:Nat):Int),(0:Int),()),((un,uv,ls,()),())) (((),false,(0:Int),(0:Int),(0:Int),()),((un,uv,ls,()),()))
     ⟨0,0,0,false,Nat.zero_le _,rfl,rfl⟩ with ⟨h3,h4⟩ | ⟨r,s,h3,h4,⟨a,b,o,rfl,rfl⟩ | ⟨e,rfl,rfl⟩⟩
    ·rw [h3,h4];rfl
    ·rw [h3,h4];rfl
    ·rw [h3,h4];rfl
def numG (v:Nat) (c:UInt8):Nat:=v*256+c.toNat
def numv (bs:List UInt8):Nat:=bs.foldl numG 0
theorem foldS_inl {α β τ:Type} (g:β->α->β) (fin:β->τ):∀ (l:List α) (b:β),zd (λa b=>(.inl (g b a):β⊕τ)) fin b l=fin (l.foldl g b)
 | [],_=>rfl
 | a::t,b=>foldS_inl g fin t (g b a)
theorem numG_lt (v:Nat) (c:UInt8) (i:Nat) (hv:v<256^i):numG v c<256^(i+1):=by
 have hc:=c.toNat_lt
 unfold numG
 rw [Nat.pow_succ]
 have:(v+1)*256<=256^i*256:=uQ _ hv
 omega
theorem pow4 {i:Nat} (h:i<=3):(256:Nat)^i<=16777216:=Nat.pow_le_pow_right (n:=256) (by omega) h
theorem foldl_lt:∀ (bs:List UInt8) (v i:Nat),v<256^i->bs.foldl numG v<256^(i+bs.length)
 | [],_,_,h=>h
 | c::t,v,i,h=>by
  have:=foldl_lt t (numG v c) (i+1) (numG_lt v c i h)
  rw [List.foldl_cons,List.length_cons,show i+(t.length+1)=i+1+t.length by omega]
  exact this
theorem numv_lt (bs:List UInt8):numv bs<256^bs.length:=by
 have:=foldl_lt bs 0 0 (by simp)
 rwa [Nat.zero_add] at this
theorem L138_eq (l bs:List UInt8) (hb:bs.length<=4):L138_0 (((),(0:Int),bs,((bs.length:Nat):Int),(0:Int),()),((l,()),()))=some (((),((numv bs:Nat):Int),()),((l,()),())):=by
 have hF:=zO
 unfold L138_0
 refine (zq (f:=B138_0) (λ(v:Nat) i=>(((),(v:Int),bs,((bs.length:Nat):Int),(i:Int),()),((l,()),()))) bs (λa v=>.inl (numG v a)) (λv=>(((),(v:Int),()),((l,()),()))) (λv i=>v<256^i)
  (λv i a hv hi ha=>?_) (λv _=>?_) (by omega) (b:=0) (by simp)).trans ?_
 ·refine .inl ⟨_,rfl,numG_lt v a i hv,?_⟩
  have hp:=pow4 (i:=i) (by omega)
  have d0:decide ((i:Int)<((bs.length:Nat):Int))=true:=zX (by omega)
  have d1:decide ((0:Int)<=(i:Int))=true:=zX (by omega)
  have w1:zZ ((i:Int)+1)=((i+1:Nat):Int):=by rw [zQ (by omega) (by omega)];rfl
  have w2:zZ ((v:Int)*2^8)=((v*256:Nat):Int):=by rw [zQ (by omega) (by omega)];omega
  have hc:=a.toNat_lt
  have o:wV .or .i64 ((v*256:Nat):Int) ((a.toNat:Nat):Int)=((numG v a:Nat):Int):=by
   rw [or64 _ _ (by omega) (by omega)]
   have e:v*256 ||| a.toNat=v*256+a.toNat:=by
    have:=Nat.two_pow_add_eq_or_of_lt (i:=8) hc v
    rw [Nat.mul_comm] at this
    exact this.symm
   rw [e];rfl
  simp only [B138_0,d0,d1,yE,zH,zu,ha,w1,w2,o]
 ·simp only [B138_0,Int.lt_irrefl,yu,zK]
 ·rw [foldS_inl numG]
  rfl
theorem L127_eq (l bs:List UInt8) (off:Bool) (hb:bs.length<=4):L127_0 (((),(),(0:Int),(0:Int),()),((l,off,()),bs,()))=some (((),((numv bs:Nat):Int),()),((l,off,()),())):=by
 have hF:=zO
 unfold L127_0
 refine (zq (f:=B127_0) (λ(v:Nat) i=>(((),(),(v:Int),(i:Int),()),((l,off,()),bs,()))) bs (λa v=>.inl (numG v a)) (λv=>(((),(v:Int),()),((l,off,()),()))) (λv i=>v<256^i)
  (λv i a hv hi ha=>?_) (λv _=>?_) (by omega) (b:=0) (by simp)).trans ?_
 ·refine .inl ⟨_,rfl,numG_lt v a i hv,?_⟩
  have hp:=pow4 (i:=i) (by omega)
  have hc:=a.toNat_lt
  have d0:decide ((i:Int)<((bs.length:Nat):Int))=true:=zX (by omega)
  have d1:decide ((0:Int)<=(i:Int))=true:=zX (by omega)
  have w1:zZ ((i:Int)+1)=((i+1:Nat):Int):=by rw [zQ (by omega) (by omega)];rfl
  have w2:zZ ((256:Int)*(v:Int))=((v*256:Nat):Int):=by rw [zQ (by omega) (by omega)];omega
  have w3:zZ (((v*256:Nat):Int)+((a.toNat:Nat):Int))=((numG v a:Nat):Int):=by
   rw [zQ (by omega) (by omega)];unfold numG;omega
  simp only [B127_0,d0,d1,yE,zH,zE,zu,ha,w1,w2,w3]
 ·simp only [B127_0,Int.lt_irrefl,yu,zK]
 ·rw [foldS_inl numG]
  rfl
def tak (n:Nat) (l:List UInt8):Option (List UInt8×List UInt8):=if l.length<n then none else some (l.take n,l.drop n)
def vo (n:Nat) (l:List UInt8):Option (Nat×List UInt8):=if l.length<n then none else some (numv (l.take n),l.drop n)
def xV (w:Nat) (l:List UInt8):Option (List UInt8×List UInt8):=(vo w l).bind λq=>tak q.1 q.2
def ltr1 (l:List UInt8):Option (Ltr×List UInt8):=(vo 4 l).bind λu=>(vo 1 u.2).bind λf=>(xV 2 f.2).bind λb=>some (((u.1:Int),ua (f.1:Int),b.1,()),b.2)
def wE:Nat->List UInt8->Option (List Ltr×List UInt8)
 | 0,l=>some ([],l)
 | n+1,l=>(ltr1 l).bind λq=>(wE n q.2).bind λr=>some (q.1::r.1,r.2)
def ug (l:List UInt8):Option (Bx×List UInt8):=(xV 1 l).bind λn=>(vo 4 n.2).bind λv=>(vo 4 v.2).bind λx=>(vo 1 x.2).bind λc=>(wE c.1 c.2).bind λq=>some ((n.1,(v.1:Int),(x.1:Int),q.1,()),q.2)
def yc:Nat->List UInt8->Option (List Bx×List UInt8)
 | 0,l=>some ([],l)
 | n+1,l=>(ug l).bind λq=>(yc n q.2).bind λr=>some (q.1::r.1,r.2)
def vP (l:List UInt8):Option (Usr×List UInt8):=(xV 1 l).bind λn=>(vo 4 n.2).bind λv=>(vo 1 v.2).bind λc=>(yc c.1 c.2).bind λq=>some ((n.1,(v.1:Int),q.1,()),q.2)
theorem ud {n:Nat} {l:List UInt8} {q:Nat×List UInt8} (h:vo n l=some q):q.1<256^n:=by
 unfold vo at h
 split at h
 ·cases h
 ·cases h
  have:=numv_lt (l.take n)
  rwa [yy,Nat.min_eq_left (by omega)] at this
theorem yk {n:Nat} {l:List UInt8} {q:Nat×List UInt8} (hn:n<=4) (h:vo n l=some q):F138 (((),(n:Int),()),((l,()),()))=some (.inl (q.1:Int),((q.2,()),())):=by
 have e:=vU l n
 unfold vo at h
 split at h
 ·cases h
 ·rename_i h'
  cases h
  rw [if_neg h'] at e
  have ht:(l.take n).length=n:=by rw [yy];omega
  simp only [F138,e,zE,L138_eq (l.drop n) (l.take n) (by omega)]
theorem xk {n:Nat} {l:List UInt8} (h:vo n l=none):∃ l',F138 (((),(n:Int),()),((l,()),()))=some (.inr (3,()),((l',()),())):=by
 have e:=vU l n
 unfold vo at h
 split at h
 ·rename_i h'
  rw [if_pos h'] at e
  exact ⟨l,by simp only [F138,e,zE]⟩
 ·cases h
theorem F137_some {l:List UInt8} {q:List UInt8×List UInt8} (h:xV 1 l=some q):F137 (((),()),((l,()),()))=some (.inl q.1,((q.2,()),())):=by
 unfold xV at h
 cases h1:vo 1 l with
 | none=>rw [h1] at h;cases h
 | some r =>
  rw [h1,zE] at h
  have e1:=yk (by omega) h1
  rw [show ((1:Nat):Int)=1 from rfl] at e1
  have e2:=vU r.2 r.1
  unfold tak at h
  split at h
  ·cases h
  ·rename_i h'
   cases h
   rw [if_neg h'] at e2
   simp only [F137,e1,zE,e2]
theorem F137_none {l:List UInt8} (h:xV 1 l=none):∃ l',F137 (((),()),((l,()),()))=some (.inr (3,()),((l',()),())):=by
 unfold xV at h
 cases h1:vo 1 l with
 | none =>
  obtain ⟨l',e1⟩:=xk h1
  rw [show ((1:Nat):Int)=1 from rfl] at e1
  exact ⟨l',by simp only [F137,e1,zE]⟩
 | some r =>
  rw [h1,zE] at h
  have e1:=yk (by omega) h1
  rw [show ((1:Nat):Int)=1 from rfl] at e1
  have e2:=vU r.2 r.1
  unfold tak at h
  split at h
  ·rename_i h'
   rw [if_pos h'] at e2
   exact ⟨r.2,by simp only [F137,e1,zE,e2]⟩
  ·cases h
theorem F139_some {l:List UInt8} {q:List UInt8×List UInt8} (h:xV 2 l=some q):F139 (((),()),((l,()),()))=some (.inl q.1,((q.2,()),())):=by
 unfold xV at h
 cases h1:vo 2 l with
 | none=>rw [h1] at h;cases h
 | some r =>
  rw [h1,zE] at h
  have hr:=ud h1
  have e1:=yk (by omega) h1
  rw [show ((2:Nat):Int)=2 from rfl] at e1
  have e2:=vU r.2 r.1
  unfold tak at h
  split at h
  ·cases h
  ·rename_i h'
   cases h
   rw [if_neg h'] at e2
   have e3:=F54_eq' (r.2.take r.1) (by rw [yy];omega)
   simp only [F139,e1,zE,e2,e3]
theorem F139_none {l:List UInt8} (h:xV 2 l=none):∃ l',F139 (((),()),((l,()),()))=some (.inr (3,()),((l',()),())):=by
 unfold xV at h
 cases h1:vo 2 l with
 | none =>
  obtain ⟨l',e1⟩:=xk h1
  rw [show ((2:Nat):Int)=2 from rfl] at e1
  exact ⟨l',by simp only [F139,e1,zE]⟩
 | some r =>
  rw [h1,zE] at h
  have e1:=yk (by omega) h1
  rw [show ((2:Nat):Int)=2 from rfl] at e1
  have e2:=vU r.2 r.1
  unfold tak at h
  split at h
  ·rename_i h'
   rw [if_pos h'] at e2
   exact ⟨r.2,by simp only [F139,e1,zE,e2]⟩
  ·cases h
theorem ltrs_split {n i:Nat} {l l':List UInt8} {ls:List Ltr} (hi:i<n) {a:Ltr} {l2:List UInt8} (h1:ltr1 l'=some (a,l2))
  (h:wE n l=(wE (n-i) l').bind λq=>some (ls++q.1,q.2)):wE n l=(wE (n-(i+1)) l2).bind λq=>some ((ls++[a])++q.1,q.2):=by
 rw [h,show n-i=(n-(i+1))+1 by omega]
 simp only [wE,h1,zE]
 cases wE (n-(i+1)) l2 <;> simp
theorem ltrs_stop {n i:Nat} {l l':List UInt8} {ls:List Ltr} (hi:i<n) (h1:ltr1 l'=none)
  (h:wE n l=(wE (n-i) l').bind λq=>some (ls++q.1,q.2)):wE n l=none:=by
 rw [h,show n-i=(n-(i+1))+1 by omega]
 simp only [wE,h1,Option.bind_none]
theorem ltrs_end {n:Nat} {l l':List UInt8} {ls:List Ltr}
  (h:wE n l=(wE (n-n) l').bind λq=>some (ls++q.1,q.2)):wE n l=some (ls,l'):=by
 rw [h,Nat.sub_self]
 simp [wE]
theorem boxs_split {n i:Nat} {l l':List UInt8} {ls:List Bx} (hi:i<n) {a:Bx} {l2:List UInt8} (h1:ug l'=some (a,l2))
  (h:yc n l=(yc (n-i) l').bind λq=>some (ls++q.1,q.2)):yc n l=(yc (n-(i+1)) l2).bind λq=>some ((ls++[a])++q.1,q.2):=by
 rw [h,show n-i=(n-(i+1))+1 by omega]
 simp only [yc,h1,zE]
 cases yc (n-(i+1)) l2 <;> simp
theorem ve {n i:Nat} {l l':List UInt8} {ls:List Bx} (hi:i<n) (h1:ug l'=none)
  (h:yc n l=(yc (n-i) l').bind λq=>some (ls++q.1,q.2)):yc n l=none:=by
 rw [h,show n-i=(n-(i+1))+1 by omega]
 simp only [yc,h1,Option.bind_none]
theorem boxs_end {n:Nat} {l l':List UInt8} {ls:List Bx}
  (h:yc n l=(yc (n-n) l').bind λq=>some (ls++q.1,q.2)):yc n l=some (ls,l'):=by
 rw [h,Nat.sub_self]
 simp [yc]
theorem L136_1_eq (l:List UInt8) (N:NmT) (bxs:List Bx) (B:BnT) (c0 i0:Int) (cnt:Nat) (hc:cnt<=255) :
  ∃ r,L136_1 (((),(),(),c0,i0,(cnt:Int),(0:Int),()),((l,()),N,bxs,B,([]:List Ltr),()))=some r /\
   match r with
   | .inl q=>∃ l' ls',wE cnt l=some (ls',l')/\q=(((),(),(),c0,i0,()),((l',()),N,bxs,B,ls',()))
   | .inr q=>wE cnt l=none/\∃ l',q=(((3,()),()),((l',()),N,bxs,())):=by
 obtain ⟨nn,nv,⟨⟩,⟨⟩⟩:=N
 obtain ⟨bn,bv,bx,⟨⟩,⟨⟩⟩:=B
 have hF:=zO
 unfold L136_1
 refine yD (f:=wY) (λp=>∃ (i:Nat) (l':List UInt8) (ls:List Ltr),i<=cnt/\ls.length<=i/\p=(((),(),(),c0,i0,(cnt:Int),(i:Int),()),((l',()),(nn,nv,(),()),bxs,(bn,bv,bx,(),()),ls,()))/\wE cnt l=(wE (cnt-i) l').bind λq=>some (ls++q.1,q.2)) (λp=>cnt-p.1.2.2.2.2.2.2.1.toNat) _ ?_
  ⟨0,l,[],Nat.zero_le _,Nat.le_refl _,rfl,by rw [Nat.sub_zero];cases wE cnt l <;> simp⟩ (by simp only;omega)
 rintro p ⟨i,l',ls,hi,hl,rfl,hq⟩
 rcases Nat.lt_or_ge i cnt with h | h
 ·have d0:decide ((i:Int)<(cnt:Int))=true:=zX (by omega)
  have w1:zZ ((i:Int)+1)=((i+1:Nat):Int):=by rw [zQ (by omega) (by omega)];rfl
  cases h1:vo 4 l' with
  | none =>
   obtain ⟨l1,e1⟩:=xk h1
   rw [show ((4:Nat):Int)=4 from rfl] at e1
   exact .inr ⟨.inr (((3,()),()),((l1,()),(nn,nv,(),()),bxs,())),by simp only [wY,d0,zH,e1,zE],ltrs_stop h (by simp [ltr1,h1]) hq,_,rfl⟩
  | some r1 =>
  have e1:=yk (by omega) h1
  rw [show ((4:Nat):Int)=4 from rfl] at e1
  cases h2:vo 1 r1.2 with
  | none =>
   obtain ⟨l1,e2⟩:=xk h2
   rw [show ((1:Nat):Int)=1 from rfl] at e2
   exact .inr ⟨.inr (((3,()),()),((l1,()),(nn,nv,(),()),bxs,())),by simp only [wY,d0,zH,e1,zE,e2],ltrs_stop h (by simp [ltr1,h1,h2]) hq,_,rfl⟩
  | some r2 =>
  have e2:=yk (by omega) h2
  rw [show ((1:Nat):Int)=1 from rfl] at e2
  cases h3:xV 2 r2.2 with
  | none =>
   obtain ⟨l1,e3⟩:=F139_none h3
   exact .inr ⟨.inr (((3,()),()),((l1,()),(nn,nv,(),()),bxs,())),by simp only [wY,d0,zH,e1,zE,e2,e3],ltrs_stop h (by simp [ltr1,h1,h2,h3]) hq,_,rfl⟩
  | some r3 =>
  have e3:=F139_some h3
  have hb:∀ x:Ltr,zC (ls.length+[x].length) 40=true:=λx=>zU (by simp only [vx];omega)
  refine .inl ⟨_,by simp only [wY,d0,zH,e1,zE,e2,e3,hb,w1];rfl,⟨i+1,r3.2,_,h,?_,rfl,ltrs_split h (by simp [ltr1,h1,h2,h3]) hq⟩,?_⟩
  ·rw [yS,vx];omega
  ·simp only;omega
 ·have hi':i=cnt:=by omega
  subst hi'
  exact .inr ⟨.inl (((),(),(),c0,i0,()),((l',()),(nn,nv,(),()),bxs,(bn,bv,bx,(),()),ls,())),by simp only [wY,Int.lt_irrefl,yu,zK],_,_,ltrs_end hq,rfl⟩
theorem L136_0_eq (l:List UInt8) (N:NmT) (cnt:Nat) (hc:cnt<=255) :
  ∃ r,L136_0 (((),(),(cnt:Int),(0:Int),()),((l,()),N,([]:List Bx),()))=some r /\
   match r with
   | .inl q=>∃ l' ls',yc cnt l=some (ls',l')/\q=(((),(),()),((l',()),N,ls',()))
   | .inr q=>yc cnt l=none/\∃ l' ls',q=(((3,()),()),((l',()),N,ls',())):=by
 obtain ⟨nn,nv,⟨⟩,⟨⟩⟩:=N
 have hF:=zO
 unfold L136_0
 refine yD (f:=xN) (λp=>∃ (i:Nat) (l':List UInt8) (ls:List Bx),i<=cnt/\ls.length<=i/\p=(((),(),(cnt:Int),(i:Int),()),((l',()),(nn,nv,(),()),ls,()))/\yc cnt l=(yc (cnt-i) l').bind λq=>some (ls++q.1,q.2)) (λp=>cnt-p.1.2.2.2.1.toNat) _ ?_
  ⟨0,l,[],Nat.zero_le _,Nat.le_refl _,rfl,by rw [Nat.sub_zero];cases yc cnt l <;> simp⟩ (by simp only;omega)
 rintro p ⟨i,l',ls,hi,hl,rfl,hq⟩
 rcases Nat.lt_or_ge i cnt with h | h
 ·have d0:decide ((i:Int)<(cnt:Int))=true:=zX (by omega)
  have w1:zZ ((i:Int)+1)=((i+1:Nat):Int):=by rw [zQ (by omega) (by omega)];rfl
  cases h0:xV 1 l' with
  | none =>
   obtain ⟨l1,e0⟩:=F137_none h0
   exact .inr ⟨.inr (((3,()),()),((l1,()),(nn,nv,(),()),ls,())),by simp only [xN,d0,zH,e0,zE],ve h (by simp [ug,h0]) hq,_,_,rfl⟩
  | some r0 =>
  have e0:=F137_some h0
  cases h1:vo 4 r0.2 with
  | none =>
   obtain ⟨l1,e1⟩:=xk h1
   rw [show ((4:Nat):Int)=4 from rfl] at e1
   exact .inr ⟨.inr (((3,()),()),((l1,()),(nn,nv,(),()),ls,())),by simp only [xN,d0,zH,e0,e1,zE],ve h (by simp [ug,h0,h1]) hq,_,_,rfl⟩
  | some r1 =>
  have e1:=yk (by omega) h1
  rw [show ((4:Nat):Int)=4 from rfl] at e1
  cases h2:vo 4 r1.2 with
  | none =>
   obtain ⟨l1,e2⟩:=xk h2
   rw [show ((4:Nat):Int)=4 from rfl] at e2
   exact .inr ⟨.inr (((3,()),()),((l1,()),(nn,nv,(),()),ls,())),by simp only [xN,d0,zH,e0,e1,zE,e2],ve h (by simp [ug,h0,h1,h2]) hq,_,_,rfl⟩
  | some r2 =>
  have e2:=yk (by omega) h2
  rw [show ((4:Nat):Int)=4 from rfl] at e2
  cases h3:vo 1 r2.2 with
  | none =>
   obtain ⟨l1,e3⟩:=xk h3
   rw [show ((1:Nat):Int)=1 from rfl] at e3
   exact .inr ⟨.inr (((3,()),()),((l1,()),(nn,nv,(),()),ls,())),by simp only [xN,d0,zH,e0,e1,zE,e2,e3],ve h (by simp [ug,h0,h1,h2,h3]) hq,_,_,rfl⟩
  | some r3 =>
  have e3:=yk (by omega) h3
  rw [show ((1:Nat):Int)=1 from rfl] at e3
  have hk:=ud h3
  obtain ⟨r4,e4,h4⟩:=L136_1_eq r3.2 (nn,nv,(),()) ls (r0.1,(r1.1:Int),(r2.1:Int),(),()) (cnt:Int) (i:Int) r3.1 (by omega)
  cases r4 with
  | inr q =>
   obtain ⟨h5,l4,rfl⟩:=h4
   exact .inr ⟨.inr (((3,()),()),((l4,()),(nn,nv,(),()),ls,())),by simp only [xN,d0,zH,e0,e1,zE,e2,e3,e4],ve h (by simp [ug,h0,h1,h2,h3,h5]) hq,_,_,rfl⟩
  | inl q =>
   obtain ⟨l4,ls4,h5,rfl⟩:=h4
   have hb:∀ x:Bx,zC (ls.length+[x].length) 56=true:=λx=>zU (by simp only [vx];omega)
   refine .inl ⟨_,by simp only [xN,d0,zH,e0,e1,zE,e2,e3,e4,hb,w1];rfl,⟨i+1,l4,_,h,?_,rfl,boxs_split h (by simp [ug,h0,h1,h2,h3,h5]) hq⟩,?_⟩
   ·rw [yS,vx];omega
   ·simp only;omega
 ·have hi':i=cnt:=by omega
  subst hi'
  exact .inr ⟨.inl (((),(),()),((l',()),(nn,nv,(),()),ls,())),by simp only [xN,Int.lt_irrefl,yu,zK],_,_,boxs_end hq,rfl⟩
theorem rd_some {l:List UInt8} {u:Usr} {l':List UInt8} (h:vP l=some (u,l')):vM l=u/\rdE l=if l'.length=0 then 0 else 4:=by
 unfold vM rdE rdR
 cases h0:xV 1 l with
 | none=>simp [vP,h0] at h
 | some r0 =>
 cases h1:vo 4 r0.2 with
 | none=>simp [vP,h0,h1] at h
 | some r1 =>
 cases h2:vo 1 r1.2 with
 | none=>simp [vP,h0,h1,h2] at h
 | some r2 =>
 have e0:=F137_some h0
 have e1:=yk (by omega) h1
 have e2:=yk (by omega) h2
 rw [show ((4:Nat):Int)=4 from rfl] at e1
 rw [show ((1:Nat):Int)=1 from rfl] at e2
 have hk:=ud h2
 obtain ⟨r4,e4,h4⟩:=L136_0_eq r2.2 (r0.1,(r1.1:Int),(),()) r2.1 (by omega)
 cases r4 with
 | inr q =>
  obtain ⟨h5,-⟩:=h4
  simp [vP,h0,h1,h2,h5] at h
 | inl q =>
  obtain ⟨l4,ls4,h5,rfl⟩:=h4
  simp only [vP,h0,h1,h2,h5,zE,xC,Prod.mk.injEq] at h
  obtain ⟨rfl,rfl⟩:=h
  simp only [F136,e0,e1,e2,e4,zE]
  exact ⟨trivial,trivial⟩
theorem rd_none {l:List UInt8} (h:vP l=none):rdE l=3:=by
 unfold rdE rdR
 cases h0:xV 1 l with
 | none =>
  obtain ⟨l1,e0⟩:=F137_none h0
  simp only [F136,e0,zE]
 | some r0 =>
 have e0:=F137_some h0
 cases h1:vo 4 r0.2 with
 | none =>
  obtain ⟨l1,e1⟩:=xk h1
  rw [show ((4:Nat):Int)=4 from rfl] at e1
  simp only [F136,e0,e1,zE]
 | some r1 =>
 have e1:=yk (by omega) h1
 rw [show ((4:Nat):Int)=4 from rfl] at e1
 cases h2:vo 1 r1.2 with
 | none =>
  obtain ⟨l1,e2⟩:=xk h2
  rw [show ((1:Nat):Int)=1 from rfl] at e2
  simp only [F136,e0,e1,e2,zE]
 | some r2 =>
 have e2:=yk (by omega) h2
 rw [show ((1:Nat):Int)=1 from rfl] at e2
 have hk:=ud h2
 obtain ⟨r4,e4,h4⟩:=L136_0_eq r2.2 (r0.1,(r1.1:Int),(),()) r2.1 (by omega)
 cases r4 with
 | inr q =>
  obtain ⟨h5,l4,ls4,rfl⟩:=h4
  simp only [F136,e0,e1,e2,e4,zE]
 | inl q =>
  obtain ⟨l4,ls4,h5,rfl⟩:=h4
  simp [vP,h0,h1,h2,h5] at h
theorem F126_some {n:Nat} {l:List UInt8} {q:List UInt8×List UInt8} (hn:n<=100000) (h:tak n l=some q):F126 (((),(n:Int),()),((l,false,()),()))=some ((),((q.2,false,()),q.1,())):=by
 unfold tak at h
 split at h
 ·cases h
 ·rename_i h'
  cases h
  have c0:decide (((l.length:Nat):Int)<(n:Int))=false:=z7 (by omega)
  have c1:decide ((0:Int)<=(n:Int))=true:=zX (by omega)
  have c2:decide ((n:Int)<=((l.length:Nat):Int))=true:=zX (by omega)
  have hb:zC (0+(l.take n).length) 1=true:=zU (by rw [yy];omega)
  simp only [F126,c0,Bool.or_self,zK,c1,c2,Int.le_refl,zV,yE,zH,zu,hb,zE,List.nil_append]
  rw [show (l.drop n).take (l.length-n)=l.drop n from List.take_of_length_le (by rw [u0];omega)]
theorem F126_none {n:Nat} {l:List UInt8} (h:tak n l=none):F126 (((),(n:Int),()),((l,false,()),()))=some ((),((l,true,()),[],())):=by
 unfold tak at h
 split at h
 ·rename_i h'
  have c0:decide (((l.length:Nat):Int)<(n:Int))=true:=zX (by omega)
  simp only [F126,c0,Bool.or_true,zH]
 ·cases h
theorem yt (n:Int) (l:List UInt8):F126 (((),n,()),((l,true,()),()))=some ((),((l,true,()),[],())):=by
 simp only [F126,Bool.true_or,zH]
theorem xH {n:Nat} {l:List UInt8} {q:Nat×List UInt8} (hn:n<=4) (h:vo n l=some q):F127 (((),(n:Int),()),((l,false,()),()))=some ((q.1:Int),((q.2,false,()),())):=by
 unfold vo at h
 split at h
 ·cases h
 ·rename_i h'
  cases h
  have e:=F126_some (q:=(l.take n,l.drop n)) (n:=n) (l:=l) (by omega) (by unfold tak;rw [if_neg h'])
  have ht:(l.take n).length=n:=by rw [yy];omega
  simp only [F127,e,zE,L127_eq (l.drop n) (l.take n) false (by omega)]
theorem L127_nil (l:List UInt8) (off:Bool):L127_0 (((),(),(0:Int),(0:Int),()),((l,off,()),[],()))=some (((),(0:Int),()),((l,off,()),())):=L127_eq l [] off (Nat.zero_le _)
theorem xL {n:Nat} {l:List UInt8} (h:vo n l=none):F127 (((),(n:Int),()),((l,false,()),()))=some (0,((l,true,()),())):=by
 have e:F126 (((),(n:Int),()),((l,false,()),()))=some ((),((l,true,()),[],())):=F126_none (by
  unfold vo at h
  unfold tak
  split at h
  ·rename_i h';rw [if_pos h']
  ·cases h)
 simp only [F127,e,zE,L127_nil]
theorem yz (n:Int) (l:List UInt8):F127 (((),n,()),((l,true,()),()))=some (0,((l,true,()),())):=by
 simp only [F127,yt,zE,L127_nil]
abbrev BnU:Type:=Tx×Int×Int×Unit×Unit
abbrev stL (c0 i0:Int) (cnt i:Nat) (l:List UInt8) (off:Bool) (N:NmT) (B:BnU) (e5 e6:List Bx) (ls:List Ltr) :
  ((Unit×Unit×Unit×Int×Int×Unit×Int×Int×Unit)×((Unit×Unit×Unit×Unit)×(List UInt8×Bool×Unit)×NmT×BnU×List Bx×List Bx×List Ltr×Unit)) :=
 (((),(),(),c0,i0,(),(cnt:Int),(i:Int),()),(((),(),(),()),(l,off,()),N,B,e5,e6,ls,()))
theorem B99_1_go (c0 i0:Int) (cnt i:Nat) (l:List UInt8) (nn:Tx) (nv:Int) (bn:Tx) (bv bx:Int) (e5 e6:List Bx) (ls:List Ltr) (h:i<cnt) (hc:cnt<=255) (hl:ls.length<=i) :
  ∃ a l2 off,B99_1 (stL c0 i0 cnt i l false (nn,nv,(),()) (bn,bv,bx,(),()) e5 e6 ls)=some (.inl (stL c0 i0 cnt (i+1) l2 off (nn,nv,(),()) (bn,bv,bx,(),()) e5 e6 (ls++[a]))) /\
   (off=false->ltr1 l=some (a,l2))/\(off=true->ltr1 l=none):=by
 have d0:decide ((i:Int)<(cnt:Int))=true:=zX (by omega)
 have w1:zZ ((i:Int)+1)=((i+1:Nat):Int):=by rw [zQ (by omega) (by omega)];rfl
 have hb:∀ x:Ltr,zC (ls.length+[x].length) 40=true:=λx=>zU (by simp only [vx];omega)
 cases h1:vo 4 l with
 | none =>
  have e1:=xL h1
  rw [show ((4:Nat):Int)=4 from rfl] at e1
  exact ⟨_,_,true,by simp only [stL,B99_1,d0,yx,yE,zH,e1,zE,yz,yt,hb,w1];rfl,nofun,λ_=>by simp [ltr1,h1]⟩
 | some r1 =>
 have e1:=xH (by omega) h1
 rw [show ((4:Nat):Int)=4 from rfl] at e1
 cases h2:vo 1 r1.2 with
 | none =>
  have e2:=xL h2
  rw [show ((1:Nat):Int)=1 from rfl] at e2
  exact ⟨_,_,true,by simp only [stL,B99_1,d0,yx,yE,zH,e1,e2,zE,yz,yt,hb,w1];rfl,nofun,λ_=>by simp [ltr1,h1,h2]⟩
 | some r2 =>
 have e2:=xH (by omega) h2
 rw [show ((1:Nat):Int)=1 from rfl] at e2
 cases h3:vo 2 r2.2 with
 | none =>
  have e3:=xL h3
  rw [show ((2:Nat):Int)=2 from rfl] at e3
  exact ⟨_,_,true,by simp only [stL,B99_1,d0,yx,yE,zH,e1,e2,e3,zE,yt,hb,w1];rfl,nofun,λ_=>by simp [ltr1,xV,h1,h2,h3]⟩
 | some r3 =>
 have e3:=xH (by omega) h3
 rw [show ((2:Nat):Int)=2 from rfl] at e3
 have hk:=ud h3
 cases h4:tak r3.1 r3.2 with
 | none =>
  have e4:=F126_none h4
  exact ⟨_,_,true,by simp only [stL,B99_1,d0,yx,yE,zH,e1,e2,e3,e4,zE,hb,w1];rfl,nofun,λ_=>by simp [ltr1,xV,h1,h2,h3,h4]⟩
 | some r4 =>
  have e4:=F126_some (by omega) h4
  exact ⟨_,_,false,by simp only [stL,B99_1,d0,yx,yE,zH,e1,e2,e3,e4,zE,hb,w1];rfl,λ_=>by simp [ltr1,xV,h1,h2,h3,h4],nofun⟩
theorem L99_1_eq (l:List UInt8) (N:NmT) (B:BnU) (c0 i0:Int) (e5 e6:List Bx) (cnt:Nat) (hc:cnt<=255) :
  ∃ l' off ls',L99_1 (stL c0 i0 cnt 0 l false N B e5 e6 [])=some (((),(),(),c0,i0,(),()),(((),(),(),()),(l',off,()),N,B,e5,e6,ls',())) /\
   (off=false->wE cnt l=some (ls',l'))/\(off=true->wE cnt l=none):=by
 obtain ⟨nn,nv,⟨⟩,⟨⟩⟩:=N
 obtain ⟨bn,bv,bx,⟨⟩,⟨⟩⟩:=B
 have hF:=zO
 suffices h:∃ r,L99_1 (stL c0 i0 cnt 0 l false (nn,nv,(),()) (bn,bv,bx,(),()) e5 e6 [])=some r/\∃ l' off ls',r=(((),(),(),c0,i0,(),()),(((),(),(),()),(l',off,()),(nn,nv,(),()),(bn,bv,bx,(),()),e5,e6,ls',())) /\
   (off=false->wE cnt l=some (ls',l'))/\(off=true->wE cnt l=none) by
  obtain ⟨r,h1,l',off,ls',rfl,h2⟩:=h
  exact ⟨l',off,ls',h1,h2⟩
 unfold L99_1
 refine yD (f:=B99_1) (λp=>∃ (i:Nat) (l':List UInt8) (off:Bool) (ls:List Ltr),i<=cnt/\ls.length<=i/\p=stL c0 i0 cnt i l' off (nn,nv,(),()) (bn,bv,bx,(),()) e5 e6 ls /\
   (off=false->wE cnt l=(wE (cnt-i) l').bind λq=>some (ls++q.1,q.2))/\(off=true->wE cnt l=none)) (λp=>cnt-p.1.2.2.2.2.2.2.2.1.toNat) _ ?_
  ⟨0,l,false,[],Nat.zero_le _,Nat.le_refl _,rfl,λ_=>by rw [Nat.sub_zero];cases wE cnt l <;> simp,nofun⟩ (by simp only;omega)
 rintro p ⟨i,l',off,ls,hi,hl,rfl,h1,h2⟩
 cases off with
 | true =>
  refine .inr ⟨_,?_,l',true,ls,rfl,nofun,λ_=>h2 rfl⟩
  simp only [B99_1,yA,Bool.and_false,zK]
 | false =>
  rcases Nat.lt_or_ge i cnt with h | h
  ·obtain ⟨a,l2,off,e,h3,h4⟩:=B99_1_go c0 i0 cnt i l' nn nv bn bv bx e5 e6 ls h hc hl
   refine .inl ⟨_,e,⟨i+1,l2,off,ls++[a],h,by rw [yS,vx];omega,rfl,λho=>?_,λho=>?_⟩,?_⟩
   ·exact ltrs_split h (h3 ho) (h1 rfl)
   ·exact ltrs_stop h (h4 ho) (h1 rfl)
   ·simp only [];omega
  ·have hi':i=cnt:=by omega
   subst hi'
   refine .inr ⟨_,?_,l',false,ls,rfl,λ_=>ltrs_end (h1 rfl),nofun⟩
   simp only [B99_1,Int.lt_irrefl,yu,Bool.false_and,zK]
abbrev stB (cnt i:Nat) (l:List UInt8) (off:Bool) (N:NmT) (e5 e6:List Bx) :
  ((Unit×Unit×Unit×Int×Int×Unit)×((Unit×Unit×Unit×Unit)×(List UInt8×Bool×Unit)×NmT×List Bx×List Bx×Unit)) :=
 (((),(),(),(cnt:Int),(i:Int),()),(((),(),(),()),(l,off,()),N,e5,e6,()))
theorem B99_0_go (cnt i:Nat) (l:List UInt8) (nn:Tx) (nv:Int) (e5 ls:List Bx) (h:i<cnt) (hc:cnt<=255) (hl:ls.length<=i) :
  ∃ a l2 off,tD (stB cnt i l false (nn,nv,(),()) e5 ls)=some (.inl (stB cnt (i+1) l2 off (nn,nv,(),()) e5 (ls++[a]))) /\
   (off=false->ug l=some (a,l2))/\(off=true->ug l=none):=by
 have d0:decide ((i:Int)<(cnt:Int))=true:=zX (by omega)
 have w1:zZ ((i:Int)+1)=((i+1:Nat):Int):=by rw [zQ (by omega) (by omega)];rfl
 have hb:∀ x:Bx,zC (ls.length+[x].length) 56=true:=λx=>zU (by simp only [vx];omega)
 have hz:∀ (l:List UInt8) (B:BnU),L99_1 (((),(),(),(cnt:Int),(i:Int),(),(0:Int),(0:Int),()),(((),(),(),()),(l,true,()),(nn,nv,(),()),B,e5,ls,([]:List Ltr),()))=some (((),(),(),(cnt:Int),(i:Int),(),()),(((),(),(),()),(l,true,()),(nn,nv,(),()),B,e5,ls,[],())):=λl B=>by
  unfold L99_1 zR
  have:FUEL=(FUEL-1)+1:=by have:=zO;omega
  rw [this,iter]
  simp only [B99_1,Int.lt_irrefl,yu,Bool.false_and,zK]
 cases h0:vo 1 l with
 | none =>
  have e0:=xL h0
  rw [show ((1:Nat):Int)=1 from rfl] at e0
  exact ⟨_,_,true,by simp only [stB,tD,d0,yx,yE,zH,e0,zE,yz,yt,hz,hb,w1];rfl,nofun,λ_=>by simp [ug,xV,h0]⟩
 | some r0 =>
 have e0:=xH (by omega) h0
 rw [show ((1:Nat):Int)=1 from rfl] at e0
 have hk0:=ud h0
 cases h1:tak r0.1 r0.2 with
 | none =>
  have e1:=F126_none h1
  exact ⟨_,_,true,by simp only [stB,tD,d0,yx,yE,zH,e0,e1,zE,yz,hz,hb,w1];rfl,nofun,λ_=>by simp [ug,xV,h0,h1]⟩
 | some r1 =>
 have e1:=F126_some (by omega) h1
 cases h2:vo 4 r1.2 with
 | none =>
  have e2:=xL h2
  rw [show ((4:Nat):Int)=4 from rfl] at e2
  exact ⟨_,_,true,by simp only [stB,tD,d0,yx,yE,zH,e0,e1,e2,zE,yz,hz,hb,w1];rfl,nofun,λ_=>by simp [ug,xV,h0,h1,h2]⟩
 | some r2 =>
 have e2:=xH (by omega) h2
 rw [show ((4:Nat):Int)=4 from rfl] at e2
 cases h3:vo 4 r2.2 with
 | none =>
  have e3:=xL h3
  rw [show ((4:Nat):Int)=4 from rfl] at e3
  exact ⟨_,_,true,by simp only [stB,tD,d0,yx,yE,zH,e0,e1,e2,e3,zE,yz,hz,hb,w1];rfl,nofun,λ_=>by simp [ug,xV,h0,h1,h2,h3]⟩
 | some r3 =>
 have e3:=xH (by omega) h3
 rw [show ((4:Nat):Int)=4 from rfl] at e3
 cases h4:vo 1 r3.2 with
 | none =>
  have e4:=xL h4
  rw [show ((1:Nat):Int)=1 from rfl] at e4
  exact ⟨_,_,true,by simp only [stB,tD,d0,yx,yE,zH,e0,e1,e2,e3,e4,zE,hz,hb,w1];rfl,nofun,λ_=>by simp [ug,xV,h0,h1,h2,h3,h4]⟩
 | some r4 =>
 have e4:=xH (by omega) h4
 rw [show ((1:Nat):Int)=1 from rfl] at e4
 have hk:=ud h4
 obtain ⟨l5,off,ls5,e5',h5,h6⟩:=L99_1_eq r4.2 (nn,nv,(),()) (r1.1,(r2.1:Int),(r3.1:Int),(),()) (cnt:Int) (i:Int) e5 ls r4.1 (by omega)
 simp only [stL] at e5'
 rw [show ((0:Nat):Int)=0 from rfl] at e5'
 exact ⟨_,_,off,by simp only [stB,tD,d0,yx,yE,zH,e0,e1,e2,e3,e4,e5',zE,hb,w1];rfl,λho=>by simp [ug,xV,h0,h1,h2,h3,h4,h5 ho],λho=>by simp [ug,xV,h0,h1,h2,h3,h4,h6 ho]⟩
theorem L99_0_eq (l:List UInt8) (N:NmT) (e5:List Bx) (cnt:Nat) (hc:cnt<=255) :
  ∃ l' off ls',L99_0 (stB cnt 0 l false N e5 [])=some (((),(),(),()),(((),(),(),()),(l',off,()),N,e5,ls',())) /\
   (off=false->yc cnt l=some (ls',l'))/\(off=true->yc cnt l=none):=by
 obtain ⟨nn,nv,⟨⟩,⟨⟩⟩:=N
 have hF:=zO
 suffices h:∃ r,L99_0 (stB cnt 0 l false (nn,nv,(),()) e5 [])=some r/\∃ l' off ls',r=(((),(),(),()),(((),(),(),()),(l',off,()),(nn,nv,(),()),e5,ls',())) /\
   (off=false->yc cnt l=some (ls',l'))/\(off=true->yc cnt l=none) by
  obtain ⟨r,h1,l',off,ls',rfl,h2⟩:=h
  exact ⟨l',off,ls',h1,h2⟩
 unfold L99_0
 refine yD (f:=tD) (λp=>∃ (i:Nat) (l':List UInt8) (off:Bool) (ls:List Bx),i<=cnt/\ls.length<=i/\p=stB cnt i l' off (nn,nv,(),()) e5 ls /\
   (off=false->yc cnt l=(yc (cnt-i) l').bind λq=>some (ls++q.1,q.2))/\(off=true->yc cnt l=none)) (λp=>cnt-p.1.2.2.2.2.1.toNat) _ ?_
  ⟨0,l,false,[],Nat.zero_le _,Nat.le_refl _,rfl,λ_=>by rw [Nat.sub_zero];cases yc cnt l <;> simp,nofun⟩ (by simp only;omega)
 rintro p ⟨i,l',off,ls,hi,hl,rfl,h1,h2⟩
 cases off with
 | true =>
  refine .inr ⟨_,?_,l',true,ls,rfl,nofun,λ_=>h2 rfl⟩
  simp only [tD,yA,Bool.and_false,zK]
 | false =>
  rcases Nat.lt_or_ge i cnt with h | h
  ·obtain ⟨a,l2,off,e,h3,h4⟩:=B99_0_go cnt i l' nn nv e5 ls h hc hl
   refine .inl ⟨_,e,⟨i+1,l2,off,ls++[a],h,by rw [yS,vx];omega,rfl,λho=>?_,λho=>?_⟩,?_⟩
   ·exact boxs_split h (h3 ho) (h1 rfl)
   ·exact ve h (h4 ho) (h1 rfl)
   ·simp only [];omega
  ·have hi':i=cnt:=by omega
   subst hi'
   refine .inr ⟨_,?_,l',false,ls,rfl,λ_=>boxs_end (h1 rfl),nofun⟩
   simp only [tD,Int.lt_irrefl,yu,Bool.false_and,zK]
noncomputable def took (l:List UInt8):Usr×Int :=
 match vP l with
 | none=>(([],0,[],()),3)
 | some (u,r)=>if r.length=0 then (match F74 ((u,()),()) with | some (e,_)=>if e=0 then (u,0) else (([],0,[],()),e) | none=>(([],0,[],()),0)) else (([],0,[],()),4)
theorem txt_le {w:Nat} {l:List UInt8} {q:List UInt8×List UInt8} (h:xV w l=some q):q.1.length<256^w:=by
 unfold xV at h
 cases h1:vo w l with
 | none=>rw [h1] at h;cases h
 | some r =>
  have:=ud h1
  rw [h1,zE] at h
  unfold tak at h
  split at h
  ·cases h
  ·cases h
   rw [yy]
   omega
theorem box_le {l:List UInt8} {b:Bx} {r:List UInt8} (h:ug l=some (b,r)):b.1.length<256:=by
 unfold ug at h
 cases h0:xV 1 l with
 | none=>rw [h0] at h;cases h
 | some n =>
  have:=txt_le h0
  rw [h0,zE] at h
  cases h1:vo 4 n.2 with
  | none=>rw [h1] at h;cases h
  | some v =>
   rw [h1,zE] at h
   cases h2:vo 4 v.2 with
   | none=>rw [h2] at h;cases h
   | some x =>
    rw [h2,zE] at h
    cases h3:vo 1 x.2 with
    | none=>rw [h3] at h;cases h
    | some c =>
     rw [h3,zE] at h
     cases h4:wE c.1 c.2 with
     | none=>rw [h4] at h;cases h
     | some q =>
      rw [h4,zE] at h
      cases h
      exact this
theorem boxs_le:∀ (n:Nat) {l:List UInt8} {bs:List Bx} {r:List UInt8},yc n l=some (bs,r)->∀ b∈bs,b.1.length<256
 | 0,l,bs,r,h,b,hb=>by
  cases h
  cases hb
 | n+1,l,bs,r,h,b,hb=>by
  simp only [yc] at h
  cases h1:ug l with
  | none=>rw [h1] at h;cases h
  | some q =>
   rw [h1,zE] at h
   cases h2:yc n q.2 with
   | none=>rw [h2] at h;cases h
   | some s =>
    rw [h2,zE] at h
    cases h
    rcases List.mem_cons.1 hb with rfl | hb
    ·exact box_le h1
    ·exact boxs_le n h2 b hb
theorem usr_le {l:List UInt8} {u:Usr} {r:List UInt8} (h:vP l=some (u,r)):u.1.length<256/\∀ b∈u.2.2.1,b.1.length<256:=by
 unfold vP at h
 cases h0:xV 1 l with
 | none=>rw [h0] at h;cases h
 | some n =>
  have:=txt_le h0
  rw [h0,zE] at h
  cases h1:vo 4 n.2 with
  | none=>rw [h1] at h;cases h
  | some v =>
   rw [h1,zE] at h
   cases h2:vo 1 v.2 with
   | none=>rw [h2] at h;cases h
   | some c =>
    rw [h2,zE] at h
    cases h3:yc c.1 c.2 with
    | none=>rw [h3] at h;cases h
    | some q =>
     rw [h3,zE] at h
     cases h
     exact ⟨this,boxs_le _ h3⟩
theorem F119_took (l:List UInt8):F119 ((l,()),())=some (((took l).1,(took l).2,()),()):=by
 have hok:=(rd_ok l).1
 unfold took
 cases h:vP l with
 | none =>
  have e:=rd_none h
  simp only [F119,hok,zH,e,z7 (show ¬(3:Int)=0 by omega),zK,zE,yx]
 | some q =>
  obtain ⟨u,r⟩:=q
  obtain ⟨e1,e2⟩:=rd_some h
  by_cases hr:r.length=0
  ·rw [if_pos hr] at e2
   obtain ⟨e,h4,-⟩:=F74_ex u (Nat.le_trans (Nat.le_of_lt (usr_le h).1) (by decide))
   have hu:((vM l).1,(vM l).2.1,(vM l).2.2.1,())=u:=by rw [e1]
   simp only [F119,hok,zH,e2,zV,hu,h4,zE,hr,↓reduceIte]
   by_cases he:e=0
   ·subst he
    simp []
   ·simp [he]
  ·rw [if_neg hr] at e2
   simp only [F119,hok,zH,e2,z7 (show ¬(4:Int)=0 by omega),zK,zE,yx,hr,↓reduceIte]
theorem F99_took (l:List UInt8):F99 ((l,()),())=some ((((took l).1.1,(took l).1.2.1,(),()),(took l).2,()),((took l).1.2.2.1,())):=by
 unfold took
 have key:∀ (l5:List UInt8) (N:NmT) (bs:List Bx) (off:Bool),∃ x:Unit,x=():=λ_ _ _ _=>⟨(),rfl⟩
 have hz:∀ (l:List UInt8) (N:NmT),L99_0 (((),(),(),(0:Int),(0:Int),()),(((),(),(),()),(l,true,()),N,([]:List Bx),([]:List Bx),()))=some (((),(),(),()),(((),(),(),()),(l,true,()),N,[],[],())):=λl N=>by
  unfold L99_0 zR
  have:FUEL=(FUEL-1)+1:=by have:=zO;omega
  rw [this,iter]
  simp only [tD,Int.lt_irrefl,yu,Bool.false_and,zK]
 cases h0:vo 1 l with
 | none =>
  have e0:=xL h0
  rw [show ((1:Nat):Int)=1 from rfl] at e0
  have hu:vP l=none:=by simp [vP,xV,h0]
  simp only [F99,e0,zE,yt,yz,hz,zH,hu]
 | some r0 =>
 have e0:=xH (by omega) h0
 rw [show ((1:Nat):Int)=1 from rfl] at e0
 have hk0:=ud h0
 cases h1:tak r0.1 r0.2 with
 | none =>
  have e1:=F126_none h1
  have hu:vP l=none:=by simp [vP,xV,h0,h1]
  simp only [F99,e0,e1,zE,yz,hz,zH,hu]
 | some r1 =>
 have e1:=F126_some (by omega) h1
 cases h2:vo 4 r1.2 with
 | none =>
  have e2:=xL h2
  rw [show ((4:Nat):Int)=4 from rfl] at e2
  have hu:vP l=none:=by simp [vP,xV,h0,h1,h2]
  simp only [F99,e0,e1,e2,zE,yz,hz,zH,hu]
 | some r2 =>
 have e2:=xH (by omega) h2
 rw [show ((4:Nat):Int)=4 from rfl] at e2
 cases h3:vo 1 r2.2 with
 | none =>
  have e3:=xL h3
  rw [show ((1:Nat):Int)=1 from rfl] at e3
  have hu:vP l=none:=by simp [vP,xV,h0,h1,h2,h3]
  simp only [F99,e0,e1,e2,e3,zE,hz,zH,hu]
 | some r3 =>
 have e3:=xH (by omega) h3
 rw [show ((1:Nat):Int)=1 from rfl] at e3
 have hk:=ud h3
 obtain ⟨l5,off,bs,e5,h5,h6⟩:=L99_0_eq r3.2 (r1.1,(r2.1:Int),(),()) [] r3.1 (by omega)
 simp only [stB] at e5
 rw [show ((0:Nat):Int)=0 from rfl] at e5
 cases off with
 | true =>
  have hu:vP l=none:=by simp [vP,xV,h0,h1,h2,h3,h6 rfl]
  simp only [F99,e0,e1,e2,e3,e5,zE,zH,hu]
 | false =>
  have hu:vP l=some ((r1.1,(r2.1:Int),bs,()),l5):=by simp [vP,xV,h0,h1,h2,h3,h5 rfl]
  have hle:=usr_le hu
  have e6:=F47_F44 (r1.1,(r2.1:Int),bs,()) (Nat.le_trans (Nat.le_of_lt hle.1) (by decide)) (λb hb=>Nat.le_trans (Nat.le_of_lt (hle.2 b hb)) (by decide))
  obtain ⟨e,e7,-⟩:=F74_ex (r1.1,(r2.1:Int),bs,()) (Nat.le_trans (Nat.le_of_lt hle.1) (by decide))
  rw [e7] at e6
  by_cases hr:l5.length=0
  ·have c0:decide ((0:Int)<((l5.length:Nat):Int))=false:=z7 (by omega)
   simp only [F99,e0,e1,e2,e3,e5,zE,zK,e6,hu,hr,↓reduceIte,e7]
   by_cases he:e=0
   ·subst he
    simp
   ·simp [he]
  ·have c0:decide ((0:Int)<((l5.length:Nat):Int))=true:=zX (by omega)
   simp only [F99,e0,e1,e2,e3,e5,zE,zK,c0,zH,hu,hr,↓reduceIte]
theorem not_nil (s:Tx):decide ((0:Int)<((s.length:Nat):Int))=!(decide (s=([]:List UInt8))):=by
 cases s
 ·rfl
 ·simp
theorem zJ (c:UInt8):decide (((c.toNat:Nat):Int)=0)=decide (c=0):=by
 rw [decide_eq_decide]
 refine ⟨λh=>UInt8.toNat_inj.1 (by rw [show UInt8.toNat 0=0 from rfl];omega),λh=>by subst h;rfl⟩
theorem zN (c:UInt8):(decide (c=0)||decide (c.toNat<UInt8.toNat 32))=(decide ((0:Int)<=((c.toNat:Nat):Int))&&decide (((c.toNat:Nat):Int)<=31)):=by
 have z:UInt8.toNat 32=32:=rfl
 rw [z,Bool.eq_iff_iff]
 simp only [Bool.or_eq_true,yo,xh]
 constructor
 ·rintro (h | h)
  ·subst h;decide
  ·omega
 ·intro h;right;omega
theorem zI (n:Int):(decide (n=0)||(decide (n=1)||decide (n=2)))=(decide (0<=n)&&decide (n<=2)):=by
 rw [Bool.eq_iff_iff]
 simp only [Bool.or_eq_true,yo,xh]
 omega
theorem zM (n:Int):(decide (n=0)||(decide (0<n)&&decide (n<4)))=(decide (0<=n)&&decide (n<=3)):=by
 rw [Bool.eq_iff_iff]
 simp only [Bool.or_eq_true,yo,xh]
 omega
theorem F134_eq (a:Bool) (n x y:Int):F134 ((a,n,x,y,()),())=some (cond a (decide (x<=n)&&decide (n<=y)) (decide (n=0)),()):=by
 cases a <;> rfl
theorem yr:(∀ b,(true&&b)=b)/\(∀ b,(false&&b)=false)/\(∀ b,(b&&true)=b)/\(∀ b,(b&&false)=false)/\(∀ b,(true||b)=true)/\(∀ b,(false||b)=b)/\(∀ b,(b||true)=true)/\(∀ b,(b||false)=b)/\(!true)=false/\(!false)=true:=by simp
theorem zm:decide ((1:Int)<1)=false/\decide (9<(1:Int))=false/\decide ((1:Int)=3)=false/\decide ((1:Int)=4)=false/\decide ((1:Int)=5)=false/\decide ((1:Int)=6)=false/\decide ((1:Int)=7)=false/\decide ((1:Int)=8)=false/\decide ((1:Int)=9)=false/\decide ((2:Int)<1)=false/\decide (9<(2:Int))=false/\decide ((2:Int)=3)=false/\decide ((2:Int)=4)=false/\decide ((2:Int)=5)=false/\decide ((2:Int)=6)=false/\decide ((2:Int)=7)=false/\decide ((2:Int)=8)=false/\decide ((2:Int)=9)=false/\decide ((3:Int)<1)=false/\decide (9<(3:Int))=false/\decide ((3:Int)=4)=false/\decide ((3:Int)=5)=false/\decide ((3:Int)=6)=false/\decide ((3:Int)=7)=false/\decide ((3:Int)=8)=false/\decide ((3:Int)=9)=false/\decide ((4:Int)<1)=false/\decide (9<(4:Int))=false/\decide ((4:Int)=3)=false/\decide ((4:Int)=5)=false/\decide ((4:Int)=6)=false/\decide ((4:Int)=7)=false/\decide ((4:Int)=8)=false/\decide ((4:Int)=9)=false/\decide ((5:Int)<1)=false/\decide (9<(5:Int))=false/\decide ((5:Int)=3)=false/\decide ((5:Int)=4)=false/\decide ((5:Int)=6)=false/\decide ((5:Int)=7)=false/\decide ((5:Int)=8)=false/\decide ((5:Int)=9)=false/\decide ((6:Int)<1)=false/\decide (9<(6:Int))=false/\decide ((6:Int)=3)=false/\decide ((6:Int)=4)=false/\decide ((6:Int)=5)=false/\decide ((6:Int)=7)=false/\decide ((6:Int)=8)=false/\decide ((6:Int)=9)=false/\decide ((7:Int)<1)=false/\decide (9<(7:Int))=false/\decide ((7:Int)=3)=false/\decide ((7:Int)=4)=false/\decide ((7:Int)=5)=false/\decide ((7:Int)=6)=false/\decide ((7:Int)=8)=false/\decide ((7:Int)=9)=false/\decide ((8:Int)<1)=false/\decide (9<(8:Int))=false/\decide ((8:Int)=3)=false/\decide ((8:Int)=4)=false/\decide ((8:Int)=5)=false/\decide ((8:Int)=6)=false/\decide ((8:Int)=7)=false/\decide ((8:Int)=9)=false/\decide ((9:Int)<1)=false/\decide (9<(9:Int))=false/\decide ((9:Int)=3)=false/\decide ((9:Int)=4)=false/\decide ((9:Int)=5)=false/\decide ((9:Int)=6)=false/\decide ((9:Int)=7)=false/\decide ((9:Int)=8)=false/\(decide ((2:Int)<=1)&&decide ((1:Int)<=7))=false/\(decide ((2:Int)<=8)&&decide ((8:Int)<=7))=false/\(decide ((2:Int)<=9)&&decide ((9:Int)<=7))=false/\(decide ((2:Int)<=2)&&decide ((2:Int)<=7))=true/\(decide ((2:Int)<=3)&&decide ((3:Int)<=7))=true/\(decide ((2:Int)<=4)&&decide ((4:Int)<=7))=true/\(decide ((2:Int)<=5)&&decide ((5:Int)<=7))=true/\(decide ((2:Int)<=6)&&decide ((6:Int)<=7))=true/\(decide ((2:Int)<=7)&&decide ((7:Int)<=7))=true:=by simp
theorem zn:(∀ s:Tx,F94 ((s,()),())=some (zl s,()))/\(∀ a n x y,F134 ((a,n,x,y,()),())=some (cond a (decide (x<=n)&&decide (n<=y)) (decide (n=0)),()))/\(∀ l,F119 ((l,()),())=some (((took l).1,(took l).2,()),())) /\
  (∀ l,F99 ((l,()),())=some ((((took l).1.1,(took l).1.2.1,(),()),(took l).2,()),((took l).1.2.2.1,())))/\(∀ s:Tx,decide ((0:Int)<((s.length:Nat):Int))=!(decide (s=([]:List UInt8)))) :=
 ⟨F94_eq,F134_eq,F119_took,F99_took,not_nil⟩
theorem vW (l:List Int) (b:Bool) (d:Dd) (e:decide (d.1∈l)=b) (hl:l.length<=32):ui ((l,(),()),(d,()))=some (b,(d,())):=by rw [F132_eq _ _ hl,e]
theorem chk_1 (du db dt:Tx) (uid how:Int) (fl:UInt8) (ds de:Int) (by':Tx) (hu:du.length<=maxLen) (hb:db.length<=1100000) (ht:dt.length<=1100000) :
  F97 (((1,du,db,dt,uid,how,fl,ds,de,by',()),()),())=xl (((1,du,db,dt,uid,how,fl,ds,de,by',()),()),()):=by
 have H l b e h:=vW l b (1,du,db,dt,uid,how,fl,ds,de,by',()) e h
 have h0:=H [2,3,4,5,6,7] false (by simp) (by decide)
 have h1:=H [7] false (by simp) (by decide)
 have h2:=H [5,6] false (by simp) (by decide)
 have h3:=H [5] false (by simp) (by decide)
 have h4:=H [4,5] false (by simp) (by decide)
 have h5:=H [9] false (by simp) (by decide)
 have h6:=H [8,9] false (by simp) (by decide)
 have h7:=H [4] false (by simp) (by decide)
 have h8:=H [4,8] false (by simp) (by decide)
 have h9:=H [8] false (by simp) (by decide)
 have g1:=uh du hu
 have g2:=uF du hu
 have g3:=yw db hb
 have g4:=yw dt ht
 simp only [*,zn,zm,yr,zJ,zE,cond,xl,F97]
 all_goals (cases q0:yl du <;> try simp only [*,yr,zE])
 all_goals (cases q1:decide (db=[]) <;> try simp only [*,yr,zE,zV])
 all_goals (cases q2:decide (dt=[]) <;> try simp only [*,yr,zE])
 all_goals (cases q3:decide (uid=0) <;> try simp only [*,yr,zE])
 all_goals (cases q4:decide (how=0) <;> try simp only [*,yr,zE])
 all_goals (cases q5:decide (fl=0) <;> try simp only [*,yr,zE])
 all_goals (cases q6:decide (ds=0) <;> try simp only [*,yr,zE])
 all_goals (cases q7:decide (de=0) <;> try simp only [*,yr,zE])
 all_goals (cases q8:decide (by'=[]) <;> try simp only [*,yr,zE])
theorem chk_2 (du db dt:Tx) (uid how:Int) (fl:UInt8) (ds de:Int) (by':Tx) (hu:du.length<=maxLen) (hb:db.length<=1100000) (ht:dt.length<=1100000) :
  F97 (((2,du,db,dt,uid,how,fl,ds,de,by',()),()),())=xl (((2,du,db,dt,uid,how,fl,ds,de,by',()),()),()):=by
 have H l b e h:=vW l b (2,du,db,dt,uid,how,fl,ds,de,by',()) e h
 have h0:=H [2,3,4,5,6,7] true (by simp) (by decide)
 have h1:=H [7] false (by simp) (by decide)
 have h2:=H [5,6] false (by simp) (by decide)
 have h3:=H [5] false (by simp) (by decide)
 have h4:=H [4,5] false (by simp) (by decide)
 have h5:=H [9] false (by simp) (by decide)
 have h6:=H [8,9] false (by simp) (by decide)
 have h7:=H [4] false (by simp) (by decide)
 have h8:=H [4,8] false (by simp) (by decide)
 have h9:=H [8] false (by simp) (by decide)
 have g1:=uh du hu
 have g2:=uF du hu
 have g3:=yw db hb
 have g4:=yw dt ht
 simp only [*,zn,zm,yr,zJ,zE,cond,xl,F97]
 all_goals (cases q0:yl du <;> try simp only [*,yr,zE])
 all_goals (cases q1:zl db <;> try simp only [*,yr,zE,zV])
 all_goals (cases q2:decide (dt=[]) <;> try simp only [*,yr,zE])
 all_goals (cases q3:decide (uid=0) <;> try simp only [*,yr,zE])
 all_goals (cases q4:decide (how=0) <;> try simp only [*,yr,zE])
 all_goals (cases q5:decide (fl=0) <;> try simp only [*,yr,zE])
 all_goals (cases q6:decide (ds=0) <;> try simp only [*,yr,zE])
 all_goals (cases q7:decide (de=0) <;> try simp only [*,yr,zE])
 all_goals (cases q8:decide (by'=[]) <;> try simp only [*,yr,zE])
theorem chk_3 (du db dt:Tx) (uid how:Int) (fl:UInt8) (ds de:Int) (by':Tx) (hu:du.length<=maxLen) (hb:db.length<=1100000) (ht:dt.length<=1100000) :
  F97 (((3,du,db,dt,uid,how,fl,ds,de,by',()),()),())=xl (((3,du,db,dt,uid,how,fl,ds,de,by',()),()),()):=by
 have H l b e h:=vW l b (3,du,db,dt,uid,how,fl,ds,de,by',()) e h
 have h0:=H [2,3,4,5,6,7] true (by simp) (by decide)
 have h1:=H [7] false (by simp) (by decide)
 have h2:=H [5,6] false (by simp) (by decide)
 have h3:=H [5] false (by simp) (by decide)
 have h4:=H [4,5] false (by simp) (by decide)
 have h5:=H [9] false (by simp) (by decide)
 have h6:=H [8,9] false (by simp) (by decide)
 have h7:=H [4] false (by simp) (by decide)
 have h8:=H [4,8] false (by simp) (by decide)
 have h9:=H [8] false (by simp) (by decide)
 have g1:=uh du hu
 have g2:=uF du hu
 have g3:=yw db hb
 have g4:=yw dt ht
 simp only [*,zn,zm,yr,zJ,zE,cond,xl,F97]
 all_goals (cases q0:yl du <;> try simp only [*,yr,zE])
 all_goals (cases q1:zl db <;> try simp only [*,yr,zE,zV])
 all_goals (cases q2:decide (dt=[]) <;> try simp only [*,yr,zE])
 all_goals (cases q3:decide (uid=0) <;> try simp only [*,yr,zE])
 all_goals (cases q4:decide (how=0) <;> try simp only [*,yr,zE])
 all_goals (cases q5:decide (fl=0) <;> try simp only [*,yr,zE])
 all_goals (cases q6:decide (ds=0) <;> try simp only [*,yr,zE])
 all_goals (cases q7:decide (de=0) <;> try simp only [*,yr,zE])
 all_goals (cases q8:decide (by'=[]) <;> try simp only [*,yr,zE])
theorem chk_4 (du db dt:Tx) (uid how:Int) (fl:UInt8) (ds de:Int) (by':Tx) (hu:du.length<=maxLen) (hb:db.length<=1100000) (ht:dt.length<=1100000) :
  F97 (((4,du,db,dt,uid,how,fl,ds,de,by',()),()),())=xl (((4,du,db,dt,uid,how,fl,ds,de,by',()),()),()):=by
 have H l b e h:=vW l b (4,du,db,dt,uid,how,fl,ds,de,by',()) e h
 have h0:=H [2,3,4,5,6,7] true (by simp) (by decide)
 have h1:=H [7] false (by simp) (by decide)
 have h2:=H [5,6] false (by simp) (by decide)
 have h3:=H [5] false (by simp) (by decide)
 have h4:=H [4,5] true (by simp) (by decide)
 have h5:=H [9] false (by simp) (by decide)
 have h6:=H [8,9] false (by simp) (by decide)
 have h7:=H [4] true (by simp) (by decide)
 have h8:=H [4,8] true (by simp) (by decide)
 have h9:=H [8] false (by simp) (by decide)
 have g1:=uh du hu
 have g2:=uF du hu
 have g3:=yw db hb
 have g4:=yw dt ht
 simp only [*,zn,zm,yr,zJ,zN,zE,zV,cond,xl,F97]
 all_goals (cases q0:yl du <;> try simp only [*,yr,zE])
 all_goals (cases q1:zl db <;> try simp only [*,yr,zE,zV])
 all_goals (cases q2:decide (dt=[]) <;> try simp only [*,yr,zE])
 all_goals (cases q3:decide (uid=0) <;> try simp only [*,yr,zE])
 all_goals (cases q4:decide (how=0) <;> try simp only [*,yr,zE])
 all_goals (cases q5:(decide ((0:Int)<=((fl.toNat:Nat):Int))&&decide (((fl.toNat:Nat):Int)<=31)) <;> try simp only [*,yr,zE])
 all_goals (cases q6:decide (ds=0) <;> try simp only [*,yr,zE])
 all_goals (cases q7:decide (de=0) <;> try simp only [*,yr,zE])
 all_goals (cases q8:decide ((600:Int)<((by'.length:Nat):Int)) <;> try simp only [*,zE])
theorem chk_5 (du db dt:Tx) (uid how:Int) (fl:UInt8) (ds de:Int) (by':Tx) (hu:du.length<=maxLen) (hb:db.length<=1100000) (ht:dt.length<=1100000) :
  F97 (((5,du,db,dt,uid,how,fl,ds,de,by',()),()),())=xl (((5,du,db,dt,uid,how,fl,ds,de,by',()),()),()):=by
 have H l b e h:=vW l b (5,du,db,dt,uid,how,fl,ds,de,by',()) e h
 have h0:=H [2,3,4,5,6,7] true (by simp) (by decide)
 have h1:=H [7] false (by simp) (by decide)
 have h2:=H [5,6] true (by simp) (by decide)
 have h3:=H [5] true (by simp) (by decide)
 have h4:=H [4,5] true (by simp) (by decide)
 have h5:=H [9] false (by simp) (by decide)
 have h6:=H [8,9] false (by simp) (by decide)
 have h7:=H [4] false (by simp) (by decide)
 have h8:=H [4,8] false (by simp) (by decide)
 have h9:=H [8] false (by simp) (by decide)
 have g1:=uh du hu
 have g2:=uF du hu
 have g3:=yw db hb
 have g4:=yw dt ht
 simp only [*,zn,zm,yr,zJ,zN,zI,zE,zV,cond,xl,F97]
 all_goals (cases q0:yl du <;> try simp only [*,yr,zE])
 all_goals (cases q1:zl db <;> try simp only [*,yr,zE,zV])
 all_goals (cases q2:decide (dt=[]) <;> try simp only [*,yr,zE])
 all_goals (cases q3:(decide (1<=uid)&&decide (uid<=4294967295)) <;> try simp only [*,yr,zE])
 all_goals (cases q4:(decide (0<=how)&&decide (how<=2)) <;> try simp only [*,yr,zE])
 all_goals (cases q5:(decide ((0:Int)<=((fl.toNat:Nat):Int))&&decide (((fl.toNat:Nat):Int)<=31)) <;> try simp only [*,yr,zE])
 all_goals (cases q6:decide (ds=0) <;> try simp only [*,yr,zE])
 all_goals (cases q7:decide (de=0) <;> try simp only [*,yr,zE])
 all_goals (cases q8:decide (by'=[]) <;> try simp only [*,yr,zE])
theorem chk_6 (du db dt:Tx) (uid how:Int) (fl:UInt8) (ds de:Int) (by':Tx) (hu:du.length<=maxLen) (hb:db.length<=1100000) (ht:dt.length<=1100000) :
  F97 (((6,du,db,dt,uid,how,fl,ds,de,by',()),()),())=xl (((6,du,db,dt,uid,how,fl,ds,de,by',()),()),()):=by
 have H l b e h:=vW l b (6,du,db,dt,uid,how,fl,ds,de,by',()) e h
 have h0:=H [2,3,4,5,6,7] true (by simp) (by decide)
 have h1:=H [7] false (by simp) (by decide)
 have h2:=H [5,6] true (by simp) (by decide)
 have h3:=H [5] false (by simp) (by decide)
 have h4:=H [4,5] false (by simp) (by decide)
 have h5:=H [9] false (by simp) (by decide)
 have h6:=H [8,9] false (by simp) (by decide)
 have h7:=H [4] false (by simp) (by decide)
 have h8:=H [4,8] false (by simp) (by decide)
 have h9:=H [8] false (by simp) (by decide)
 have g1:=uh du hu
 have g2:=uF du hu
 have g3:=yw db hb
 have g4:=yw dt ht
 simp only [*,zn,zm,yr,zJ,zE,zV,cond,xl,F97]
 all_goals (cases q0:yl du <;> try simp only [*,yr,zE])
 all_goals (cases q1:zl db <;> try simp only [*,yr,zE,zV])
 all_goals (cases q2:decide (dt=[]) <;> try simp only [*,yr,zE])
 all_goals (cases q3:(decide (1<=uid)&&decide (uid<=4294967295)) <;> try simp only [*,yr,zE])
 all_goals (cases q4:decide (how=0) <;> try simp only [*,yr,zE])
 all_goals (cases q5:decide (fl=0) <;> try simp only [*,yr,zE])
 all_goals (cases q6:decide (ds=0) <;> try simp only [*,yr,zE])
 all_goals (cases q7:decide (de=0) <;> try simp only [*,yr,zE])
 all_goals (cases q8:decide (by'=[]) <;> try simp only [*,yr,zE])
theorem chk_7 (du db dt:Tx) (uid how:Int) (fl:UInt8) (ds de:Int) (by':Tx) (hu:du.length<=maxLen) (hb:db.length<=1100000) (ht:dt.length<=1100000) :
  F97 (((7,du,db,dt,uid,how,fl,ds,de,by',()),()),())=xl (((7,du,db,dt,uid,how,fl,ds,de,by',()),()),()):=by
 have H l b e h:=vW l b (7,du,db,dt,uid,how,fl,ds,de,by',()) e h
 have h0:=H [2,3,4,5,6,7] true (by simp) (by decide)
 have h1:=H [7] true (by simp) (by decide)
 have h2:=H [5,6] false (by simp) (by decide)
 have h3:=H [5] false (by simp) (by decide)
 have h4:=H [4,5] false (by simp) (by decide)
 have h5:=H [9] false (by simp) (by decide)
 have h6:=H [8,9] false (by simp) (by decide)
 have h7:=H [4] false (by simp) (by decide)
 have h8:=H [4,8] false (by simp) (by decide)
 have h9:=H [8] false (by simp) (by decide)
 have g1:=uh du hu
 have g2:=uF du hu
 have g3:=yw db hb
 have g4:=yw dt ht
 simp only [*,zn,zm,yr,zJ,zE,zV,cond,xl,F97]
 all_goals (cases q0:yl du <;> try simp only [*,yr,zE])
 all_goals (cases q1:zl db <;> try simp only [*,yr,zE])
 all_goals (cases q2:zl dt <;> try simp only [*,yr,zE,zV])
 all_goals (cases q3:decide (uid=0) <;> try simp only [*,yr,zE])
 all_goals (cases q4:decide (how=0) <;> try simp only [*,yr,zE])
 all_goals (cases q5:decide (fl=0) <;> try simp only [*,yr,zE])
 all_goals (cases q6:decide (ds=0) <;> try simp only [*,yr,zE])
 all_goals (cases q7:decide (de=0) <;> try simp only [*,yr,zE])
 all_goals (cases q8:decide (by'=[]) <;> try simp only [*,yr,zE])
theorem chk_8 (du db dt:Tx) (uid how:Int) (fl:UInt8) (ds de:Int) (by':Tx) (hu:du.length<=maxLen) (hb:db.length<=1100000) (ht:dt.length<=1100000) :
  F97 (((8,du,db,dt,uid,how,fl,ds,de,by',()),()),())=xl (((8,du,db,dt,uid,how,fl,ds,de,by',()),()),()):=by
 have H l b e h:=vW l b (8,du,db,dt,uid,how,fl,ds,de,by',()) e h
 have h0:=H [2,3,4,5,6,7] false (by simp) (by decide)
 have h1:=H [7] false (by simp) (by decide)
 have h2:=H [5,6] false (by simp) (by decide)
 have h3:=H [5] false (by simp) (by decide)
 have h4:=H [4,5] false (by simp) (by decide)
 have h5:=H [9] false (by simp) (by decide)
 have h6:=H [8,9] true (by simp) (by decide)
 have h7:=H [4] false (by simp) (by decide)
 have h8:=H [4,8] true (by simp) (by decide)
 have h9:=H [8] true (by simp) (by decide)
 have g1:=uh du hu
 have g2:=uF du hu
 have g3:=yw db hb
 have g4:=yw dt ht
 simp only [*,zn,zm,yr,zJ,zE,zV,cond,xl,F97]
 all_goals (cases q0:yl du <;> try simp only [*,yr,zE])
 all_goals (cases q1:decide (db=[]) <;> try simp only [*,yr,zE,zV])
 all_goals (cases q2:decide (dt=[]) <;> try simp only [*,yr,zE])
 all_goals (cases q3:decide (uid=0) <;> try simp only [*,yr,zE])
 all_goals (cases q4:decide (how=0) <;> try simp only [*,yr,zE])
 all_goals (cases q5:decide (fl=0) <;> try simp only [*,yr,zE])
 all_goals (cases q6:decide (ds=0) <;> try simp only [*,yr,zE])
 all_goals (cases q7:(decide (1<=de)&&decide (de<=4294967295)) <;> try simp only [*,zn,yr,zE])
 generalize took by'=tk
 obtain ⟨⟨t1,t2,t3,⟨⟩⟩,te⟩:=tk
 simp only
 by_cases he:te=0
 ·subst he
  by_cases hn:t1=du
  ·simp [hn]
  ·simp [hn]
 ·simp [he]
theorem chk_9 (du db dt:Tx) (uid how:Int) (fl:UInt8) (ds de:Int) (by':Tx) (hu:du.length<=maxLen) (hb:db.length<=1100000) (ht:dt.length<=1100000) :
  F97 (((9,du,db,dt,uid,how,fl,ds,de,by',()),()),())=xl (((9,du,db,dt,uid,how,fl,ds,de,by',()),()),()):=by
 have H l b e h:=vW l b (9,du,db,dt,uid,how,fl,ds,de,by',()) e h
 have h0:=H [2,3,4,5,6,7] false (by simp) (by decide)
 have h1:=H [7] false (by simp) (by decide)
 have h2:=H [5,6] false (by simp) (by decide)
 have h3:=H [5] false (by simp) (by decide)
 have h4:=H [4,5] false (by simp) (by decide)
 have h5:=H [9] true (by simp) (by decide)
 have h6:=H [8,9] true (by simp) (by decide)
 have h7:=H [4] false (by simp) (by decide)
 have h8:=H [4,8] false (by simp) (by decide)
 have h9:=H [8] false (by simp) (by decide)
 have g1:=uh du hu
 have g2:=uF du hu
 have g3:=yw db hb
 have g4:=yw dt ht
 simp only [*,zn,zm,yr,zJ,zM,zE,zV,cond,xl,F97]
 all_goals (cases q0:yl du <;> try simp only [*,yr,zE])
 all_goals (cases q1:decide (db=[]) <;> try simp only [*,yr,zE,zV])
 all_goals (cases q2:decide (dt=[]) <;> try simp only [*,yr,zE])
 all_goals (cases q3:decide (uid=0) <;> try simp only [*,yr,zE])
 all_goals (cases q4:decide (how=0) <;> try simp only [*,yr,zE])
 all_goals (cases q5:decide (fl=0) <;> try simp only [*,yr,zE])
 all_goals (cases q6:(decide (0<=ds)&&decide (ds<=3)) <;> try simp only [*,yr,zE])
 all_goals (cases q7:(decide (1<=de)&&decide (de<=4294967295)) <;> try simp only [*,yr,zE])
 all_goals (cases q8:decide (by'=[]) <;> try simp only [*,yr,zE])
theorem F97_F73 (d:Dd) (hu:d.2.1.length<=maxLen) (hb:d.2.2.1.length<=1100000) (ht:d.2.2.2.1.length<=1100000):F97 ((d,()),())=xl ((d,()),()):=by
 obtain ⟨dd,du,db,dt,uid,how,fl,ds,de,by',⟨⟩⟩:=d
 by_cases h:1<=dd/\dd<=9
 ·have:dd=1\/dd=2\/dd=3\/dd=4\/dd=5\/dd=6\/dd=7\/dd=8\/dd=9:=by omega
  rcases this with rfl | rfl | rfl | rfl | rfl | rfl | rfl | rfl | rfl
  ·exact chk_1 du db dt uid how fl ds de by' hu hb ht
  ·exact chk_2 du db dt uid how fl ds de by' hu hb ht
  ·exact chk_3 du db dt uid how fl ds de by' hu hb ht
  ·exact chk_4 du db dt uid how fl ds de by' hu hb ht
  ·exact chk_5 du db dt uid how fl ds de by' hu hb ht
  ·exact chk_6 du db dt uid how fl ds de by' hu hb ht
  ·exact chk_7 du db dt uid how fl ds de by' hu hb ht
  ·exact chk_8 du db dt uid how fl ds de by' hu hb ht
  ·exact chk_9 du db dt uid how fl ds de by' hu hb ht
 ·have c:(decide (dd<1)||decide (9<dd))=true:=by
   rw [Bool.or_eq_true,xh,xh];omega
  have h0:=F132_eq [(2:Int),3,4,5,6,7] (dd,du,db,dt,uid,how,fl,ds,de,by',()) (by decide)
  simp only [xl,F97,c,zH,h0,zE]
abbrev Ur:Type:=Tx×(Int×(List Bx×Unit))
abbrev nou:Ur:=([],0,[],())
theorem getDu_eq {ly:List Ur} {i:Nat} (h:i<ly.length):ly.getD i nou=ly[i]:=by
 rw [xo,List.getElem?_eq_getElem h];rfl
theorem wR {ls:List Bx} {i:Nat} (h:i<ls.length):ls.getD i yH=ls[i]:=by
 rw [xo,List.getElem?_eq_getElem h];rfl
theorem F100_eq (ly:List Ur) (nm:Tx) (hl:ly.length<=1000) :
  ∃ lo:Nat,F100 ((true,nm,()),((ly,()),()))=some (((lo:Int),decide (lo<ly.length)&&decide ((ly.getD lo nou).1=nm),()),((ly,()),()))/\lo<=ly.length /\
   (∀ k,k<lo->(ly.getD k nou).1<nm)/\(lo<ly.length->¬ (ly.getD lo nou).1<nm):=by
 have hF:=zO
 obtain ⟨r,h1,lo,rfl,h2,h3,h4⟩:=yD (f:=B100_0) (p:=((true,nm,(0:Int),()),((ly,()),())))
  (λp=>∃ i:Nat,i<=ly.length/\(∀ k,k<i->(ly.getD k nou).1<nm)/\p=((true,nm,(i:Int),()),((ly,()),()))) (λp=>ly.length-p.1.2.2.1.toNat)
  (λr=>∃ lo:Nat,r=((true,nm,(lo:Int),()),((ly,()),()))/\lo<=ly.length/\(∀ k,k<lo->(ly.getD k nou).1<nm)/\(lo<ly.length->¬ (ly.getD lo nou).1<nm))
  (λp ⟨i,hi,hk,hp⟩=>by
   subst hp
   rcases Nat.lt_or_ge i ly.length with h | h
   ·have d0:decide ((i:Int)<((ly.length:Nat):Int))=true:=zX (by omega)
    have d1:decide ((0:Int)<=(i:Int))=true:=zX (by omega)
    have w1:zZ ((i:Int)+1)=((i+1:Nat):Int):=by rw [zQ (by omega) (by omega)];rfl
    by_cases hb:(ly.getD i nou).1<nm
    ·left
     refine ⟨((true,nm,((i+1:Nat):Int),()),((ly,()),())),?_,⟨i+1,h,λk hk'=>?_,rfl⟩,by simp only;omega⟩
     ·have hb':Op.bytesLess (ly.getD i (([]:Tx),((0:Int),(([]:(List Bx)),())))).1 nm=true:=by rw [bl_eq];exact zX hb
      simp only [B100_0,d0,d1,yE,Bool.true_or,zH,zu,hb',w1]
     ·rcases Nat.lt_or_ge k i with h' | h'
      ·exact hk k h'
      ·obtain rfl:k=i:=by omega
       exact hb
    ·right
     refine ⟨((true,nm,(i:Int),()),((ly,()),())),?_,i,rfl,hi,hk,λ_=>hb⟩
     have hb':Op.bytesLess (ly.getD i (([]:Tx),((0:Int),(([]:(List Bx)),())))).1 nm=false:=by rw [bl_eq];exact z7 hb
     simp only [B100_0,d0,d1,yE,Bool.true_or,zH,zu,hb',Bool.and_false,zK]
   ·right
    have d0:decide ((i:Int)<((ly.length:Nat):Int))=false:=z7 (by omega)
    refine ⟨((true,nm,(i:Int),()),((ly,()),())),?_,i,rfl,hi,hk,λh'=>absurd h' (by omega)⟩
    simp only [B100_0,d0,yx,Bool.or_true,zH,Bool.false_and,zK])
  ⟨0,Nat.zero_le _,λk hk=>absurd hk (Nat.not_lt_zero _),rfl⟩ (by simp only;omega)
 refine ⟨lo,?_,h2,h3,h4⟩
 have hL:L100_0 ((true,nm,(0:Int),()),((ly,()),()))=some ((true,nm,(lo:Int),()),((ly,()),())):=h1
 have d1:decide ((0:Int)<=(lo:Int))=true:=zX (by omega)
 have e:decide ((lo:Int)<((ly.length:Nat):Int))=decide (lo<ly.length):=by rw [decide_eq_decide];omega
 have o:∀ b:Bool,(b||!b)=true:=λb=>by cases b <;> rfl
 simp only [F100,hL,zE,zH,Bool.true_or,d1,Bool.true_and,e,o,zu]
theorem F101_eq (ly L:List Ur) (i k:Nat) (hl:ly.length<=1000) (hL:L.length<=1000) (hi:i<=ly.length) (hk:k<=ly.length) :
  F101 ((true,(i:Int),(k:Int),L,()),((ly,()),()))=some ((),(((),()),ly.take i++L++ly.drop k,())):=by
 have d1:decide ((0:Int)<=(i:Int))=true:=zX (by omega)
 have d2:decide ((i:Int)<=((ly.length:Nat):Int))=true:=zX (by omega)
 have d3:decide ((0:Int)<=(k:Int))=true:=zX (by omega)
 have d4:decide ((k:Int)<=((ly.length:Nat):Int))=true:=zX (by omega)
 have b1:zC (([]:List Ur).length+(ly.take i).length) 48=true:=zU (by rw [yy,List.length_nil];omega)
 have b2:zC ((ly.take i).length+L.length) 48=true:=zU (by rw [yy];omega)
 have b3:zC ((ly.take i++L).length+((ly.drop k).take (ly.length-k)).length) 48=true:=zU (by rw [yS,yy,yy,u0];omega)
 have e:(ly.drop k).take (ly.length-k)=ly.drop k:=List.take_of_length_le (by rw [u0];omega)
 rw [e] at b3
 simp only [F101,zH,d1,d2,d3,d4,Int.le_refl,zV,yE,zu,b1,b2,b3,e,zE,List.nil_append]
def but (ls:List Bx) (nm:Tx):List Bx:=ls.filter λb=>!decide (b.1=nm)
def oneG (nm:Tx) (o:Box) (b:Bx):Box:=if b.1=nm then yI b else o
theorem F102_eq (u:Usr) (nm:Tx) (hl:u.2.2.1.length<=1000):F102 ((u,nm,()),())=some (((),u.2.2.1.foldl (oneG nm) empty,yp u.2.2.1 nm,()),(but u.2.2.1 nm,())):=by
  obtain ⟨un,uv,ls,⟨⟩⟩:=u
  change ls.length<=1000 at hl
  have hF:=zO
  have hL:L102_0 ((nm,(),(),(),(),false,(0:Int),()),((un,uv,ls,()),((),(),(),(),()),([]:List Bx),empty,([]:List Ltr),()))=some (((),(),(),yp ls nm,()),(((),(),(),(),()),but ls nm,ls.foldl (oneG nm) empty,([]:List Ltr),())):=by
    unfold L102_0
    refine (zq (f:=B102_0) (λ(c:Bool×(List Bx×Box)) i=>((nm,(),(),(),(),c.1,(i:Int),()),((un,uv,ls,()),((),(),(),(),()),c.2.1,(c.2.2.1,c.2.2.2.1,c.2.2.2.2.1,c.2.2.2.2.2.1,()),([]:List Ltr),()))) ls
      (λa c=>.inl (c.1||decide (a.1=nm),(if a.1=nm then c.2.1 else c.2.1++[a]),oneG nm c.2.2 a)) (λc=>(((),(),(),c.1,()),(((),(),(),(),()),c.2.1,(c.2.2.1,c.2.2.2.1,c.2.2.2.2.1,c.2.2.2.2.2.1,()),([]:List Ltr),()))) (λc i=>c.2.1.length<=i)
      (λc i a hI hi ha=>?_) (λc _=>?_) (by omega) (b:=(false,([],empty))) (Nat.le_refl _)).trans ?_
    . refine .inl ⟨_,rfl,?_,?_⟩
      . simp only
        split
        . omega
        . rw [yS,vx];omega
      . have d0:decide ((i:Int)<((ls.length:Nat):Int))=true:=zX (by omega)
        have d1:decide ((0:Int)<=(i:Int))=true:=zX (by omega)
        have w1:zZ ((i:Int)+1)=((i+1:Nat):Int):=by rw [zQ (by omega) (by omega)];rfl
        have b1:∀ x:Bx,zC (c.2.1.length+[x].length) 56=true:=λx=>zU (by simp only [vx];omega)
        have ha':=ha yH
        by_cases h:a.1=nm
        . simp only [B102_0,d0,d1,yE,zH,zu,ha',h,zV,zE,w1,Bool.or_true,oneG,↓reduceIte,yI]
        . simp only [B102_0,d0,d1,yE,zH,zu,ha',z7 h,zK,b1,zE,w1,Bool.or_false,oneG,if_neg h]
    . simp only [B102_0,Int.lt_irrefl,yu,zK]
    . have:∀ (l:List Bx) (c:Bool×(List Bx×Box)),zd (λ(a:Bx) (c:Bool×(List Bx×Box))=>(.inl (c.1||decide (a.1=nm),(if a.1=nm then c.2.1 else c.2.1++[a]),oneG nm c.2.2 a):(Bool×(List Bx×Box))⊕_)) (λc=>(((),(),(),c.1,()),(((),(),(),(),()),c.2.1,(c.2.2.1,c.2.2.2.1,c.2.2.2.2.1,c.2.2.2.2.2.1,()),([]:List Ltr),()))) c l =
          (((),(),(),c.1||yp l nm,()),(((),(),(),(),()),c.2.1++but l nm,l.foldl (oneG nm) c.2.2,([]:List Ltr),())):=λl=>by
        induction l with
        | nil=>intro c;simp [zd,yp,but]
        | cons a t ih =>
          intro c
          simp only [zd]
          rw [ih]
          by_cases h:a.1=nm
          . simp [yp,but,h,oneG]
          . simp [yp,but,h,oneG]
      rw [this]
      simp only [Bool.false_or,List.nil_append]
  have he:(([]:Tx),(0:Int),(0:Int),([]:List Ltr),())=empty:=rfl
  simp only [F102,zE,he,hL]
def lay1 (b:Bx):List Bx->List Bx
 | []=>[b]
 | x::t=>if b.1<x.1 then b::x::t else x::lay1 b t
def uK (b:Bx) (c:Bool×List Bx) (a:Bx):Bool×List Bx:=if c.1=false/\b.1<a.1 then (true,c.2++[b]++[a]) else (c.1,c.2++[a])
theorem layG_true (b:Bx):∀ (l o:List Bx),l.foldl (uK b) (true,o)=(true,o++l)
 | [],o=>by simp
 | a::t,o=>by
  simp only [List.foldl_cons]
  rw [show uK b (true,o) a=(true,o++[a]) by simp [uK],layG_true b t]
  simp
theorem layG_false (b:Bx):∀ (l o:List Bx),cond (l.foldl (uK b) (false,o)).1 (l.foldl (uK b) (false,o)).2 ((l.foldl (uK b) (false,o)).2++[b])=o++lay1 b l
 | [],o=>by simp [lay1]
 | a::t,o=>by
  simp only [List.foldl_cons,lay1]
  by_cases h:b.1<a.1
  ·rw [show uK b (false,o) a=(true,o++[b]++[a]) by simp [uK,h],layG_true b t]
   simp [h]
  ·rw [show uK b (false,o) a=(false,o++[a]) by simp [uK,h],layG_false b t]
   simp [h]
theorem F103_eq (ls:List Bx) (b:Bx) (hl:ls.length<=1000):F103 ((ls,yI b,()),())=some ((),(lay1 b ls,())):=by
 obtain ⟨bn,bv,bx,bl,⟨⟩⟩:=b
 have hF:=zO
 have hL:L103_0 ((ls,(),(),false,(0:Int),()),((bn,bv,bx,bl,()),([]:List Bx),()))=some (((),(),(ls.foldl (uK (bn,bv,bx,bl,())) (false,[])).1,()),((bn,bv,bx,bl,()),(ls.foldl (uK (bn,bv,bx,bl,())) (false,[])).2,())):=by
  unfold L103_0
  refine (zq (f:=B103_0) (λ(c:Bool×List Bx) i=>((ls,(),(),c.1,(i:Int),()),((bn,bv,bx,bl,()),c.2,()))) ls (λa c=>.inl (uK (bn,bv,bx,bl,()) c a)) (λc=>(((),(),c.1,()),((bn,bv,bx,bl,()),c.2,()))) (λc i=>c.2.length<=i+(if c.1=true then 1 else 0))
   (λc i a hI hi ha=>?_) (λc _=>?_) (by omega) (b:=(false,[])) (by simp)).trans ?_
  ·have d0:decide ((i:Int)<((ls.length:Nat):Int))=true:=zX (by omega)
   have d1:decide ((0:Int)<=(i:Int))=true:=zX (by omega)
   have w1:zZ ((i:Int)+1)=((i+1:Nat):Int):=by rw [zQ (by omega) (by omega)];rfl
   have ha':=ha yH
   obtain ⟨done,o⟩:=c
   simp only at hI
   have ho:o.length<=i+1:=by
    split at hI <;> omega
   have b1:∀ x:Bx,zC (o.length+[x].length) 56=true:=λx=>zU (by simp only [vx];omega)
   have b2:∀ x y:Bx,zC ((o++[x]).length+[y].length) 56=true:=λx y=>zU (by simp only [yS,vx];omega)
   refine .inl ⟨_,rfl,?_,?_⟩
   ·unfold uK
    simp only
    by_cases h:done=false/\bn<a.1
    ·rw [if_pos h]
     rw [h.1] at hI
     simp only [yS,vx,↓reduceIte]
     simp at hI
     omega
    ·rw [if_neg h]
     simp only [yS,vx]
     omega
   ·cases done with
    | true =>
     simp only [B103_0,d0,d1,yE,zH,yA,yx,Bool.or_true,Bool.false_and,zK,zE,zu,ha',b1,w1,uK,Bool.true_eq_false,false_and,↓reduceIte]
    | false =>
     by_cases h:bn<a.1
     ·have hb:Op.bytesLess bn a.1=true:=by rw [bl_eq];exact zX h
      simp only [B103_0,d0,d1,yE,zH,yA,yx,Bool.true_or,hb,zE,zu,ha',b1,b2,w1,uK,h,and_self,↓reduceIte]
     ·have hb:Op.bytesLess bn a.1=false:=by rw [bl_eq];exact z7 h
      simp only [B103_0,d0,d1,yE,zH,yA,yx,Bool.true_or,Bool.and_false,hb,zK,zE,zu,ha',b1,w1,uK,h,and_false,↓reduceIte]
  ·simp only [B103_0,Int.lt_irrefl,yu,zK]
  ·rw [foldS_inl (uK (bn,bv,bx,bl,()))]
 have hl2:∀ (l:List Bx) (c:Bool×List Bx),(l.foldl (uK (bn,bv,bx,bl,())) c).2.length<=c.2.length+2*l.length:=λl=>by
  induction l with
  | nil=>intro c;simp
  | cons a t ih =>
   intro c
   simp only [List.foldl_cons,List.length_cons]
   refine Nat.le_trans (ih _) ?_
   unfold uK
   split
   ·simp only [yS,vx];omega
   ·simp only [yS,vx];omega
 have hlen:=hl2 ls (false,[])
 have key:=layG_false (bn,bv,bx,bl,()) ls []
 simp only [F103,yI,zE,hL]
 rw [List.nil_append] at key
 cases hd:(ls.foldl (uK (bn,bv,bx,bl,())) (false,[])).1 with
 | true =>
  rw [hd,zH] at key
  simp only [yA,zK,zE,key]
 | false =>
  rw [hd,zK] at key
  have b1:∀ x:Bx,zC ((ls.foldl (uK (bn,bv,bx,bl,())) (false,[])).2.length+[x].length) 56=true:=λx=>zU (by simp only [vx];simp at hlen;omega)
  simp only [yx,zH,b1,zE,key]
def cntM (frm:Tx) (ls:List Bx):Nat:=ls.countP λb=>vp b.1 frm
noncomputable def allR (frm tt:Tx) (ls:List Bx):Bool:=ls.all λb=>zl (wj b.1 frm tt)
theorem cntM_succ {frm:Tx} {ls:List Bx} {i:Nat} (h:i<ls.length):cntM frm (ls.take (i+1))=cntM frm (ls.take i)+(if vp ls[i].1 frm=true then 1 else 0):=by
 unfold cntM
 rw [List.take_succ_eq_append_getElem h,List.countP_append]
 simp [List.countP_cons]
theorem L121_0_eq (un:Tx) (uv:Int) (d:Dd) (ls xs:List Bx) (hl:ls.length<=6) (hn:∀ b∈ls,zl b.1=true) (h2:d.2.2.1.length<=1100000) (h3:d.2.2.2.1.length<=1100000) :
  ∃ r:R77,L121_0 (((),(),(),(0:Int),(),((ls.length:Nat):Int),(0:Int),()),((un,uv,(),()),d,((),(),(),()),ls,xs,()))=some r /\
   match r with
   | .inl q=>q=(((),(),((cntM d.2.2.1 ls:Nat):Int),()),((un,uv,(),()),((),(),(),()),ls.map (ren d.2.2.1 d.2.2.2.1),xs,()))/\allR d.2.2.1 d.2.2.2.1 ls=true
   | .inr q=>(∃ cur,q=(((),(),(),()),((un,uv,(),()),cur,())))/\allR d.2.2.1 d.2.2.2.1 ls=false:=by
 obtain ⟨dd,du,db,dt,uid,how,fl,ds,de,by',⟨⟩⟩:=d
 simp only at h2 h3 ⊢
 have hF:=zO
 unfold L121_0
 refine yD (f:=wZ) (λp=>∃ (i:Nat),i<=ls.length/\(∀ k,k<i->zl (wj (ls.getD k yH).1 db dt)=true) /\
   p=(((),(),(),((cntM db (ls.take i):Nat):Int),(),((ls.length:Nat):Int),(i:Int),()),((un,uv,(),()),(dd,du,db,dt,uid,how,fl,ds,de,by',()),((),(),(),()),(ls.take i).map (ren db dt)++ls.drop i,xs,())))
  (λp=>ls.length-p.1.2.2.2.2.2.2.1.toNat) _ ?_ ⟨0,Nat.zero_le _,λk hk=>absurd hk (Nat.not_lt_zero _),by simp [cntM]⟩ (by simp only;omega)
 rintro p ⟨i,hi,hk,rfl⟩
 rcases Nat.lt_or_ge i ls.length with h | h
 ·have d0:decide ((i:Int)<((ls.length:Nat):Int))=true:=zX (by omega)
  have d1:decide ((0:Int)<=(i:Int))=true:=zX (by omega)
  have w1:zZ ((i:Int)+1)=((i+1:Nat):Int):=by rw [zQ (by omega) (by omega)];rfl
  have hc:=cntM_succ (frm:=db) h
  have hcl:cntM db (ls.take i)<=6:=Nat.le_trans List.countP_le_length (by rw [yy];omega)
  have w2:zZ (((cntM db (ls.take i):Nat):Int)+1)=((cntM db (ls.take i)+1:Nat):Int):=by rw [zQ (by omega) (by omega)];rfl
  have hlen:((ls.take i).map (ren db dt)++ls.drop i).length=ls.length:=by simp;omega
  have hti:((ls.take i).map (ren db dt)).length=i:=by simp;omega
  obtain ⟨⟨bn,bv,bx,bl,⟨⟩⟩,hb⟩:∃ b,ls[i]=b:=⟨_,rfl⟩
  rw [hb] at hc
  have hcur:(ls.take i).map (ren db dt)++ls.drop i=(ls.take i).map (ren db dt)++((bn,(bv,(bx,(bl,()))))::ls.drop (i+1)):=by
   rw [List.drop_eq_getElem_cons h,hb]
  have hg:((ls.take i).map (ren db dt)++ls.drop i).getD i (([]:List UInt8),((0:Int),((0:Int),(([]:(List Ltr)),()))))=(bn,(bv,(bx,(bl,())))):=by
   rw [hcur,xo,List.getElem?_append_right (by omega),hti,Nat.sub_self]
   rfl
  have hset:∀ x:Bx,((ls.take i).map (ren db dt)++ls.drop i).set i x=(ls.take i).map (ren db dt)++(x::ls.drop (i+1)):=λx=>by
   rw [hcur]
   have:=th ((ls.take i).map (ren db dt)) (ls.drop (i+1)) (bn,(bv,(bx,(bl,())))) x
   rw [hti] at this
   exact this
  have hnext:(ls.take i).map (ren db dt)++((wj bn db dt,(bv,(bx,(bl,()))))::ls.drop (i+1))=(ls.take (i+1)).map (ren db dt)++ls.drop (i+1):=by
   rw [List.take_succ_eq_append_getElem h,List.map_append,List.map_cons,hb]
   simp [ren]
  have hbn:bn.length<=24:=by
   have:=wz (hn ls[i] (List.getElem_mem h))
   rw [hb] at this
   exact this
  have e102:=F143_eq bn db dt (by omega) h2 h3
  have e70:=F94_eq (wj bn db dt)
  generalize hC:(ls.take i).map (ren db dt)++ls.drop i=C at hlen hg hset
  cases hr:zl (wj bn db dt) with
  | false =>
   rw [hr] at e70
   right
   refine ⟨.inr (((),(),(),()),((un,uv,(),()),C,())),?_,⟨_,rfl⟩,?_⟩
   ·cases hm:vp bn db with
    | false =>
     rw [hm] at e102
     simp only [wZ,d0,d1,hlen,yE,zH,zK,zu,zE,hg,e102,e70,yx]
    | true =>
     rw [hm] at e102
     simp only [wZ,d0,d1,hlen,yE,zH,zu,zE,hg,e102,e70,yx]
   ·unfold allR
    rw [List.all_eq_false]
    exact ⟨ls[i],List.getElem_mem h,by rw [hb];simp [hr]⟩
  | true =>
   rw [hr] at e70
   left
   have hgood:∀ k,k<i+1->zl (wj (ls.getD k yH).1 db dt)=true:=λk hk'=>by
    rcases Nat.lt_or_ge k i with h' | h'
    ·exact hk k h'
    ·obtain rfl:k=i:=by omega
     rw [xo,List.getElem?_eq_getElem h,hb]
     exact hr
   cases hm:vp bn db with
   | false =>
    rw [hm] at e102 hc
    rw [if_neg (by simp)] at hc
    refine ⟨_,by simp only [wZ,d0,d1,hlen,yE,zH,zK,zu,zE,hg,e102,e70,yA,hset,hnext,w1];rfl,⟨i+1,h,hgood,by rw [hc];rfl⟩,?_⟩
    simp only;omega
   | true =>
    rw [hm] at e102 hc
    rw [if_pos rfl] at hc
    refine ⟨_,by simp only [wZ,d0,d1,hlen,yE,zH,zK,zu,zE,hg,e102,e70,yA,hset,hnext,w1,w2];rfl,⟨i+1,h,hgood,by rw [hc]⟩,?_⟩
    simp only;omega
 ·have hi':i=ls.length:=by omega
  subst hi'
  right
  refine ⟨.inl (((),(),((cntM db ls:Nat):Int),()),((un,uv,(),()),((),(),(),()),ls.map (ren db dt),xs,())),?_,rfl,?_⟩
  ·simp only [wZ,Int.lt_irrefl,yu,zK,List.take_length,List.drop_length,List.append_nil]
  ·unfold allR
   rw [List.all_eq_true]
   intro b hb
   obtain ⟨k,hk',rfl⟩:=List.getElem_of_mem hb
   have:=hk k hk'
   rw [xo,List.getElem?_eq_getElem hk'] at this
   exact this
theorem L121_1_eq (un:Tx) (uv n:Int) (ls xs:List Bx) (h1:1<=ls.length) (hl:ls.length<=6) :
  ∃ r:R77,L121_1 (((),(),n,((ls.length-1:Nat):Int),(0:Int),()),((un,uv,(),()),((),(),(),()),ls,xs,()))=some r /\
   match r with
   | .inl q=>q=(((),(),n,()),((un,uv,(),()),((),(),(),()),ls,xs,()))/\∀ k,k+1<ls.length->(ls.getD k yH).1≠(ls.getD (k+1) yH).1
   | .inr q=>q=(((),(),(),()),((un,uv,(),()),ls,()))/\∃ k,k+1<ls.length/\(ls.getD k yH).1=(ls.getD (k+1) yH).1:=by
 have hF:=zO
 unfold L121_1
 refine yD (f:=uk) (λp=>∃ (i:Nat),i<=ls.length-1/\(∀ k,k<i->(ls.getD k yH).1≠(ls.getD (k+1) yH).1) /\
   p=(((),(),n,((ls.length-1:Nat):Int),(i:Int),()),((un,uv,(),()),((),(),(),()),ls,xs,())))
  (λp=>ls.length-p.1.2.2.2.2.1.toNat) _ ?_ ⟨0,Nat.zero_le _,λk hk=>absurd hk (Nat.not_lt_zero _),rfl⟩ (by simp only;omega)
 rintro p ⟨i,hi,hk,rfl⟩
 rcases Nat.lt_or_ge i (ls.length-1) with h | h
 ·have d0:decide ((i:Int)<((ls.length-1:Nat):Int))=true:=zX (by omega)
  have d1:decide ((0:Int)<=(i:Int))=true:=zX (by omega)
  have d2:decide ((i:Int)<((ls.length:Nat):Int))=true:=zX (by omega)
  have w1:zZ ((i:Int)+1)=((i+1:Nat):Int):=by rw [zQ (by omega) (by omega)];rfl
  have d3:decide ((0:Int)<=((i+1:Nat):Int))=true:=zX (by omega)
  have d4:decide (((i+1:Nat):Int)<((ls.length:Nat):Int))=true:=zX (by omega)
  by_cases he:(ls.getD i yH).1=(ls.getD (i+1) yH).1
  ·right
   refine ⟨.inr (((),(),(),()),((un,uv,(),()),ls,())),?_,rfl,i,by omega,he⟩
   simp only [uk,d0,d1,d2,w1,d3,d4,yE,zH,zu,he,zV]
  ·left
   refine ⟨_,by simp only [uk,d0,d1,d2,w1,d3,d4,yE,zH,zu,he,yu,zK],⟨i+1,h,λk hk'=>?_,rfl⟩,?_⟩
   ·rcases Nat.lt_or_ge k i with h' | h'
    ·exact hk k h'
    ·obtain rfl:k=i:=by omega
     exact he
   ·simp only;omega
 ·have hi':i=ls.length-1:=by omega
  subst hi'
  right
  refine ⟨.inl (((),(),n,()),((un,uv,(),()),((),(),(),()),ls,xs,())),?_,rfl,λk hk'=>hk k (by omega)⟩
  simp only [uk,Int.lt_irrefl,yu,zK]
theorem vY (b:Bx):∀ (l:List Bx),(lay1 b l).Perm (b::l)
 | []=>List.Perm.refl _
 | x::t=>by
  unfold lay1
  split
  ·exact List.Perm.refl _
  ·exact ((vY b t).cons x).trans (List.Perm.swap b x t)
theorem lay1_len (b:Bx) (l:List Bx):(lay1 b l).length=l.length+1:=(vY b l).length_eq
theorem lay1_rise (b:Bx):∀ (l:List Bx),l.Pairwise (λa b=>a.1<b.1)->(∀ x∈l,x.1≠b.1)->(lay1 b l).Pairwise (λa b=>a.1<b.1)
 | [],_,_=>by simp [lay1]
 | x::t,h,hn=>by
  obtain ⟨h1,h2⟩:=List.pairwise_cons.1 h
  unfold lay1
  split
  ·rename_i hb
   refine List.pairwise_cons.2 ⟨λy hy=>?_,h⟩
   rcases List.mem_cons.1 hy with rfl | hy
   ·exact hb
   ·exact List.lt_trans hb (h1 y hy)
  ·rename_i hb
   refine List.pairwise_cons.2 ⟨λy hy=>?_,lay1_rise b t h2 λz hz=>hn z (List.mem_cons_of_mem _ hz)⟩
   rcases List.mem_cons.1 ((vY b t).mem_iff.1 hy) with rfl | hy
   ·exact wH hb λe=>hn x (List.mem_cons_self ..) e.symm
   ·exact h1 y hy
theorem rise_eq:∀ {a b:List Bx},a.Perm b->a.Pairwise (λa b=>a.1<b.1)->b.Pairwise (λa b=>a.1<b.1)->a=b
 | [],b,h,_,_=>h.nil_eq
 | x::t,[],h,_,_=>by have:=h.length_eq;simp at this
 | x::t,y::s,h,h1,h2=>by
  obtain ⟨k1,k2⟩:=List.pairwise_cons.1 h1
  obtain ⟨k3,k4⟩:=List.pairwise_cons.1 h2
  have e:x=y:=by
   rcases List.mem_cons.1 (h.mem_iff.1 (List.mem_cons_self ..)) with e | hx
   ·exact e
   ·rcases List.mem_cons.1 (h.symm.mem_iff.1 (List.mem_cons_self ..)) with e | hy
    ·exact e.symm
    ·exact absurd (List.lt_trans (k3 x hx) (k1 y hy)) (List.lt_irrefl _)
  subst e
  rw [rise_eq (List.Perm.cons_inv h) k2 k4]
def vj (f t:Tx) (c:Int×Bool×List Bx) (b:Bx):Int×Bool×List Bx :=
 ((if vp b.1 f=true then c.1+1 else c.1),c.2.1||c.2.2.any (λx=>decide (x.1=wj b.1 f t)),lay1 (ren f t b) c.2.2)
theorem renG_fold (f t:Tx):∀ (ls:List Bx) (c:Int×Bool×List Bx),(ls.foldl (vj f t) c).1=c.1+((cntM f ls:Nat):Int)/\(ls.foldl (vj f t) c).2.2.Perm (c.2.2++ls.map (ren f t)) /\
      (c.2.2.Pairwise (λa b=>a.1<b.1)->(ls.foldl (vj f t) c).2.1=false->(ls.foldl (vj f t) c).2.2.Pairwise (λa b=>a.1<b.1)) /\
      ((ls.foldl (vj f t) c).2.1=true->c.2.1=true\/¬ ((c.2.2++ls.map (ren f t)).map (·.1)).Nodup)
  | [],c=>⟨by simp [cntM],by simp,λh _=>h,λh=>.inl h⟩
  | a::l,c=>by
    obtain ⟨h1,h2,h3,h4⟩:=renG_fold f t l (vj f t c a)
    have hmono:∀ (l:List Bx) (c:Int×Bool×List Bx),c.2.1=true->(l.foldl (vj f t) c).2.1=true:=λl=>by
      induction l with
      | nil=>exact λc h=>h
      | cons x t' ih=>exact λc h=>ih _ (by simp [vj,h])
    simp only [List.foldl_cons]
    have hp:((lay1 (ren f t a) c.2.2)++l.map (ren f t)).Perm (c.2.2++(a::l).map (ren f t)):=by
      refine ((vY (ren f t a) c.2.2).append_right _).trans ?_
      rw [List.map_cons,List.cons_append]
      exact List.perm_middle.symm
    refine ⟨?_,h2.trans hp,λhc hk=>?_,λhk=>?_⟩
    . rw [h1]
      unfold vj cntM
      rw [List.countP_cons]
      simp only
      split <;> simp <;> omega
    . have hk1:(vj f t c a).2.1=false:=by
        cases hq:(vj f t c a).2.1 with
        | false=>rfl
        | true=>rw [hmono l _ hq] at hk;cases hk
      refine h3 (lay1_rise _ _ hc λx hx e=>?_) hk
      simp only [vj,Bool.or_eq_false_iff,List.any_eq_false,xh] at hk1
      exact hk1.2 x hx e
    . rcases h4 hk with h | h
      . simp only [vj,Bool.or_eq_true,List.any_eq_true,xh] at h
        rcases h with h | ⟨x,hx,e⟩
        . exact .inl h
        . right
          intro hnd
          rw [List.map_append,List.map_cons,List.map_cons,List.nodup_append] at hnd
          exact hnd.2.2 x.1 (List.mem_map_of_mem hx) _ (List.mem_cons_self ..) e
      . right
        intro hnd
        exact h ((hp.map (·.1)).nodup_iff.2 hnd)
theorem moves_eq (nm frm:Tx):vp nm frm=(decide (nm=frm)||((decide (((frm.length:Nat):Int)<((nm.length:Nat):Int))&&decide (nm.take frm.length=frm))&&decide (nm.getD frm.length 0=47))):=by
 unfold vp pfx
 by_cases h:nm=frm
 ·simp [h]
 ·rw [z7 h,Bool.false_or,Bool.false_or]
  rw [Bool.eq_iff_iff]
  simp only [yo,xh,yS,vx]
  constructor
  ·rintro ⟨h1,h2⟩
   have h3:frm.length<nm.length:=by omega
   rw [List.take_succ_eq_append_getElem h3] at h2
   obtain ⟨h4,h5⟩:=List.append_inj' h2 rfl
   simp only [List.cons.injEq,and_true] at h5
   refine ⟨⟨by omega,h4⟩,?_⟩
   rw [xo,List.getElem?_eq_getElem h3]
   exact h5
  ·rintro ⟨⟨h1,h2⟩,h3⟩
   have h4:frm.length<nm.length:=by omega
   refine ⟨by omega,?_⟩
   rw [List.take_succ_eq_append_getElem h4,h2]
   rw [xo,List.getElem?_eq_getElem h4] at h3
   simp only [Option.getD_some] at h3
   rw [h3]
theorem L104_1_eq (ly:List Ur) (at' n:Int) (i:Int) (known:Bool) (d:Dd) (u:Usr) (out:List Bx) (b:Bx) (hl:out.length<=1000) :
  L104_1 ((true,at',(),(),(),n,known,i,(),(0:Int),()),((ly,()),d,u,out,yI b,()))=some ((true,at',(),(),(),n,(known||out.any λx=>decide (x.1=b.1)),i,(),()),((ly,()),d,u,out,yI b,())):=by
 obtain ⟨dd,du,db,dt,uid,how,fl,ds,de,by',⟨⟩⟩:=d
 obtain ⟨un,uv,ls,⟨⟩⟩:=u
 obtain ⟨bn,bv,bx,bl,⟨⟩⟩:=b
 have hF:=zO
 unfold L104_1 yI
 refine (yi (f:=B104_1) (λ(k:Bool) j=>((true,at',(),(),(),n,k,i,(),(j:Int),()),((ly,()),(dd,du,db,dt,uid,how,fl,ds,de,by',()),(un,uv,ls,()),out,(bn,bv,bx,bl,()),()))) out
  (λa k=>.inl (k||decide (a.1=bn))) (λk=>((true,at',(),(),(),n,k,i,(),()),((ly,()),(dd,du,db,dt,uid,how,fl,ds,de,by',()),(un,uv,ls,()),out,(bn,bv,bx,bl,()),())))
  (λk j a hj ha=>?_) (λk=>?_) (by omega) (b:=known)).trans ?_
 ·have d0:decide ((j:Int)<((out.length:Nat):Int))=true:=zX (by omega)
  have d1:decide ((0:Int)<=(j:Int))=true:=zX (by omega)
  have w1:zZ ((j:Int)+1)=((j+1:Nat):Int):=by rw [zQ (by omega) (by omega)];rfl
  simp only [B104_1,d0,d1,yE,Bool.true_or,zH,zu,ha yH,zE,w1]
 ·simp only [B104_1,Int.lt_irrefl,yu,zK]
 ·rw [foldS_any (λ(a:Bx)=>decide (a.1=bn))]
theorem foldS_guard {α β τ:Type} (q:α->Bool) (g:β->α->β) (r:τ) (fin:β->τ):∀ (l:List α) (b:β),zd (λa b=>if q a=true then (.inl (g b a):β⊕τ) else .inr r) fin b l=if l.all q=true then fin (l.foldl g b) else r
 | [],_=>rfl
 | a::t,b=>by
  have ih:=foldS_guard q g r fin t
  simp only [zd,List.all_cons,List.foldl_cons]
  rcases Bool.eq_false_or_eq_true (q a) with hq | hq
  ·simp only [hq,↓reduceIte,ih,Bool.true_and]
  ·simp only [hq,Bool.false_eq_true,↓reduceIte,Bool.false_and]
abbrev R65:Type:=(((Bool×Int×Unit×Unit×Int×Bool×Unit)×(((List Ur)×Unit)×(Tx×Int×(List Bx)×Unit)×(List Bx)×Unit))⊕((Bool×Unit×Unit×Unit)×(((List Ur)×Unit)×Unit)))
theorem L104_0_eq (ly:List Ur) (at':Int) (d:Dd) (un:Tx) (uv:Int) (ls:List Bx) (hl:ls.length<=6) (hn:∀ b∈ls,zl b.1=true) (h2:d.2.2.1.length<=24) (h3:d.2.2.2.1.length<=1050000) :
  L104_0 ((true,at',(),(),(),(0:Int),false,(0:Int),()),((ly,()),d,(un,uv,ls,()),([]:List Bx),())) =
   some (if allR d.2.2.1 d.2.2.2.1 ls=true then (.inl ((true,at',(),(),(ls.foldl (vj d.2.2.1 d.2.2.2.1) (0,false,[])).1,(ls.foldl (vj d.2.2.1 d.2.2.2.1) (0,false,[])).2.1,()),((ly,()),(un,uv,ls,()),(ls.foldl (vj d.2.2.1 d.2.2.2.1) (0,false,[])).2.2,())):R65) else .inr ((true,(),(),()),((ly,()),()))):=by
 obtain ⟨dd,du,db,dt,uid,how,fl,ds,de,by',⟨⟩⟩:=d
 simp only at h2 h3 ⊢
 have hF:=zO
 unfold L104_0
 refine (zq (f:=B104_0) (λ(c:Int×Bool×List Bx) i=>((true,at',(),(),(),c.1,c.2.1,(i:Int),()),((ly,()),(dd,du,db,dt,uid,how,fl,ds,de,by',()),(un,uv,ls,()),c.2.2,()))) ls
  (λa c=>if zl (wj a.1 db dt)=true then .inl (vj db dt c a) else .inr (.inr ((true,(),(),()),((ly,()),())))) (λc=>(.inl ((true,at',(),(),c.1,c.2.1,()),((ly,()),(un,uv,ls,()),c.2.2,())):R65))
  (λc i=>0<=c.1/\c.1<=i/\c.2.2.length<=i) (λc i a hI hi ha=>?_) (λc _=>?_) (by omega) (b:=(0,false,[])) ⟨Int.le_refl _,Int.le_refl _,Nat.le_refl _⟩).trans ?_
 ·obtain ⟨n,kn,out⟩:=c
  obtain ⟨i1,i2,i3⟩:=hI
  simp only at i1 i2 i3
  have d0:decide ((i:Int)<((ls.length:Nat):Int))=true:=zX (by omega)
  have d1:decide ((0:Int)<=(i:Int))=true:=zX (by omega)
  have w1:zZ ((i:Int)+1)=((i+1:Nat):Int):=by rw [zQ (by omega) (by omega)];rfl
  have w2:zZ (n+1)=n+1:=zQ (by omega) (by omega)
  obtain ⟨bn,bv,bx,bl,⟨⟩⟩:=a
  have ha':ls.getD i (([]:List UInt8),((0:Int),((0:Int),(([]:(List Ltr)),()))))=(bn,bv,bx,bl,()):=ha yH
  have hm:(bn,bv,bx,bl,())∈ls:=by
   have:=ha yH
   rw [xo,List.getElem?_eq_getElem hi] at this
   rw [<- this]
   exact List.getElem_mem hi
  have hbn:bn.length<=24:=wz (hn _ hm)
  have hud:(wj bn db dt).length<=1050024:=by
   unfold wj
   split
   ·rw [yS,u0];omega
   ·omega
  have e33:=yw (wj bn db dt) (by omega)
  have e64:=λnm:Tx=>F103_eq out (nm,(bv,(bx,(bl,())))) (by omega)
  have e651:=λ(m:Int) (nm:Tx)=>L104_1_eq ly at' m (i:Int) kn (dd,du,db,dt,uid,how,fl,ds,de,by',()) (un,uv,ls,()) out (nm,(bv,(bx,(bl,())))) (by omega)
  simp only [yI] at e64 e651
  have q1:((decide ((0:Int)<=((db.length:Nat):Int))&&decide (((db.length:Nat):Int)<=((bn.length:Nat):Int)))||(!(decide (((db.length:Nat):Int)<((bn.length:Nat):Int))&&(!(decide (bn=db))))))=true:=by
   rw [zX (show (0:Int)<=((db.length:Nat):Int) by omega)]
   by_cases h:((db.length:Nat):Int)<((bn.length:Nat):Int)
   ·rw [zX (show ((db.length:Nat):Int)<=((bn.length:Nat):Int) by omega)];rfl
   ·rw [z7 h];simp
  have q2:((decide ((0:Int)<=((db.length:Nat):Int))&&decide (((db.length:Nat):Int)<((bn.length:Nat):Int)))||(!((decide (((db.length:Nat):Int)<((bn.length:Nat):Int))&&decide (bn.take db.length=db))&&(!(decide (bn=db))))))=true:=by
   rw [zX (show (0:Int)<=((db.length:Nat):Int) by omega)]
   cases decide (((db.length:Nat):Int)<((bn.length:Nat):Int)) <;> simp
  have hmv:=moves_eq bn db
  cases hmo:vp bn db with
  | false =>
   rw [hmo] at hmv
   have hu:wj bn db dt=bn:=by unfold wj;rw [hmo];rfl
   rw [hu] at e33
   cases hr:zl bn with
   | false =>
    right
    rw [hr] at e33
    refine ⟨_,by rw [hu,hr,if_neg (by simp)],?_⟩
    simp only [B104_0,d0,d1,yE,zH,zu,ha',zE,q1,q2,<- hmv,zK,e33,yx]
   | true =>
    left
    rw [hr] at e33
    refine ⟨_,by rw [hu,hr,if_pos rfl],?_,?_⟩
    ·simp only [vj,hmo,Bool.false_eq_true,↓reduceIte,lay1_len]
     omega
    ·simp only [B104_0,d0,d1,yE,zH,zu,ha',zE,q1,q2,<- hmv,zK,e33,yA,e651,e64,w1,vj,hmo,hu,ren,Bool.false_eq_true,↓reduceIte]
  | true =>
   rw [hmo] at hmv
   have hle:db.length<=bn.length:=by
    unfold vp at hmo
    rw [Bool.or_eq_true,xh] at hmo
    rcases hmo with h | h
    ·rw [h];exact Nat.le_refl _
    ·have:=pfx_le h
     rw [yS] at this
     omega
   have hu:wj bn db dt=dt++bn.drop db.length:=by unfold wj;rw [hmo];rfl
   have q3:((decide ((0:Int)<=((db.length:Nat):Int))&&decide (((db.length:Nat):Int)<=((bn.length:Nat):Int)))&&decide (((bn.length:Nat):Int)<=((bn.length:Nat):Int)))=true:=by
    rw [zX (show (0:Int)<=((db.length:Nat):Int) by omega),zX (show ((db.length:Nat):Int)<=((bn.length:Nat):Int) by omega),zX (Int.le_refl _)]
    rfl
   have tk:(bn.drop db.length).take (bn.length-db.length)=bn.drop db.length:=List.take_of_length_le (by rw [u0];omega)
   have ft:fits (dt.length+(bn.drop db.length).length)=true:=zX (by rw [u0];omega)
   rw [hu] at e33
   cases hr:zl (dt++bn.drop db.length) with
   | false =>
    right
    rw [hr] at e33
    refine ⟨_,by rw [hu,hr,if_neg (by simp)],?_⟩
    simp only [B104_0,d0,d1,yE,zH,zu,ha',zE,q1,q2,<- hmv,q3,tk,ft,e33,yx]
   | true =>
    left
    rw [hr] at e33
    refine ⟨_,by rw [hu,hr,if_pos rfl],?_,?_⟩
    ·simp only [vj,hmo,↓reduceIte,lay1_len]
     omega
    ·simp only [B104_0,d0,d1,yE,zH,zu,ha',zE,q1,q2,<- hmv,q3,tk,ft,zK,e33,yA,e651,e64,w1,w2,vj,hmo,hu,ren,↓reduceIte]
 ·simp only [B104_0,Int.lt_irrefl,yu,zK]
 ·rw [foldS_guard (λa=>zl (wj a.1 db dt)) (vj db dt)]
  rfl
theorem ren_both {u:Usr} (G:Fine u) (d:Dd) (h3:d.2.2.2.1.length<=1050000) (hh:yp u.2.2.1 d.2.2.1=true) (ly:List Ur) (k:Nat) (hk:k<ly.length) (hly:ly.length<=1000) (he:ly.getD k nou=(u.1,(u.2.1,(u.2.2.1,())))) :
  ∃ R:Usr×Int×Int×Unit,uj ((u,d,()),())=some (R,())/\(R.2.2.1=0->Fine R.1/\R.1.1=u.1) /\
   F104 ((true,(k:Int),d,()),((ly,()),()))=some ((if R.2.2.1=0 then (R.2.1,0,()) else (0,R.2.2.1,())),(((if R.2.2.1=0 then ly.take k++[(R.1.1,(R.1.2.1,(R.1.2.2.1,())))]++ly.drop (k+1) else ly),()),())):=by
 obtain ⟨un,uv,ls,⟨⟩⟩:=u
 obtain ⟨lo,e39,_,_,_,h5,_⟩:=F140_eq (un,uv,ls,()) d.2.2.1 (Nat.le_trans G.good.few (by omega)) G.good.rise
 obtain ⟨R0,hR0,hR1⟩:=F121_ex G d (by omega)
 refine ⟨R0,hR0,hR1,?_⟩
 obtain ⟨dd,du,db,dt,uid,how,fl,ds,de,by',⟨⟩⟩:=d
 have g1:=G.good.few
 have g5:=G.names
 simp only at h3 e39 h5 g1 g5 hh he
 rw [hh] at e39
 obtain ⟨k1,k2⟩:=h5 hh
 have hdb:db.length<=24:=by
  have:=wz (g5 _ (v6 k1))
  rw [k2] at this
  exact this
 have d0:decide ((k:Int)<((ly.length:Nat):Int))=true:=zX (by omega)
 have d1:decide ((0:Int)<=(k:Int))=true:=zX (by omega)
 have hg:ly.getD k (([]:Tx),((0:Int),(([]:(List Bx)),())))=(un,(uv,(ls,()))):=he
 by_cases hin:db=inbx
 ·have hd:decide (db=([73,78,66,79,88]:List UInt8))=true:=zX hin
  have:R0=((un,uv,ls,()),0,13,()):=by
   have:uj (((un,uv,ls,()),(dd,du,db,dt,uid,how,fl,ds,de,by',()),()),())=some (((un,uv,ls,()),0,13,()),()):=by
    simp only [uj,e39,zE,yA,zK,hd,zH]
   rw [this] at hR0
   cases hR0
   rfl
  subst this
  simp only [F104,zH,d0,d1,yE,zu,hg,zE,hd]
  rfl
 ·have hdi:decide (db=([73,78,66,79,88]:List UInt8))=false:=z7 hin
  have e30:=F37_eq ls (by omega)
  have e65:=L104_0_eq ly (k:Int) (dd,du,db,dt,uid,how,fl,ds,de,by',()) un uv ls g1 g5 hdb h3
  simp only at e65
  obtain ⟨r,e0,hr⟩:=L121_0_eq un uv (dd,du,db,dt,uid,how,fl,ds,de,by',()) ls [] g1 g5 (by simp only;omega) (by simp only;omega)
  cases r with
  | inr q =>
   obtain ⟨⟨cur,rfl⟩,hal⟩:=hr
   simp only at hal
   have:R0=((un,uv,cur,()),0,6,()):=by
    have:uj (((un,uv,ls,()),(dd,du,db,dt,uid,how,fl,ds,de,by',()),()),())=some (((un,uv,cur,()),0,6,()),()):=by
     simp only [uj,e39,zE,yA,zK,hdi,e30,e0]
    rw [this] at hR0
    cases hR0
    rfl
   subst this
   rw [hal,if_neg (by simp)] at e65
   simp only [F104,zH,d0,d1,yE,zu,hg,zE,hdi,zK,e65]
   rfl
  | inl q =>
   obtain ⟨rfl,hal⟩:=hr
   simp only at hal
   rw [hal,if_pos rfl] at e65
   have hp:(srtB (ls.map (ren db dt))).Perm (ls.map (ren db dt)):=srtBy_perm _ _ _
   have hs:(srtB (ls.map (ren db dt))).Pairwise λa b=>¬ b.1<a.1:=srtBy_sorted _ _ _
   have hlen:(srtB (ls.map (ren db dt))).length=ls.length:=by rw [hp.length_eq,List.length_map]
   have hok:srtBOK (ls.map (ren db dt))=true:=by
    unfold srtBOK
    simp only [List.length_map,yo,xh,Bool.not_eq_true',List.isEmpty_eq_false_iff]
    refine ⟨by omega,λh=>?_⟩
    have:=congrArg List.length h
    rw [List.length_map,List.length_nil] at this
    omega
   obtain ⟨S,hS⟩:∃ S,srtB (ls.map (ren db dt))=S:=⟨_,rfl⟩
   rw [hS] at hp hs hlen
   obtain ⟨f1,f2,f3,f4⟩:=renG_fold db dt ls (0,false,[])
   obtain ⟨⟨n',kn,out⟩,hfo⟩:∃ c,ls.foldl (vj db dt) (0,false,[])=c:=⟨_,rfl⟩
   rw [hfo] at e65 f1 f2 f3 f4
   simp only [List.nil_append,Int.zero_add] at f1 f2 f3 f4
   subst f1
   obtain ⟨r,e1,hr⟩:=L121_1_eq un uv ((cntM db ls:Nat):Int) S [] (by omega) (by omega)
   have c1:decide ((1:Int)<=((S.length:Nat):Int))=true:=zX (by omega)
   cases r with
   | inr q =>
    obtain ⟨rfl,j,hj,hje⟩:=hr
    have hkn:kn=true:=by
     cases kn with
     | true=>rfl
     | false =>
      have hrise:=f3 List.Pairwise.nil rfl
      have hnd:(out.map (·.1)).Nodup:=by
       rw [List.Nodup,List.pairwise_map]
       exact hrise.imp λh e=>absurd (e ▸ h) (List.lt_irrefl _)
      have hps:=((f2.trans hp.symm).map (·.1)).nodup_iff.1 hnd
      rw [List.Nodup,List.pairwise_map] at hps
      rw [wR (by omega),wR hj] at hje
      exact absurd hje (List.pairwise_iff_getElem.1 hps j (j+1) (by omega) hj (by omega))
    subst hkn
    have:R0=((un,uv,S,()),0,10,()):=by
     have:uj (((un,uv,ls,()),(dd,du,db,dt,uid,how,fl,ds,de,by',()),()),())=some (((un,uv,S,()),0,10,()),()):=by
      simp only [uj,e39,zE,yA,zK,hdi,e30,e0,hok,zH,hS,c1,Int.le_refl,zV,yE,zu,e1]
     rw [this] at hR0
     cases hR0
     rfl
    subst this
    simp only [F104,zH,d0,d1,yE,zu,hg,zE,hdi,zK,e65]
    rfl
   | inl q =>
    obtain ⟨rfl,hd⟩:=hr
    have hrise:S.Pairwise λa b=>a.1<b.1:=rise_of λk hk=>by
     have h1:=List.pairwise_iff_getElem.1 hs k (k+1) (by omega) hk (by omega)
     have h2:=hd k hk
     rw [wR (by omega),wR hk] at h2 ⊢
     exact wH h1 λe=>h2 e.symm
    have hnd:((ls.map (ren db dt)).map (·.1)).Nodup:=by
     refine (hp.map (·.1)).nodup_iff.1 ?_
     rw [List.Nodup,List.pairwise_map]
     exact hrise.imp λh e=>absurd (e ▸ h) (List.lt_irrefl _)
    have hkn:kn=false:=by
     cases kn with
     | false=>rfl
     | true =>
      rcases f4 rfl with h | h
      ·cases h
      ·exact absurd hnd h
    subst hkn
    have hout:out=S:=rise_eq (f2.trans hp.symm) (f3 List.Pairwise.nil rfl) hrise
    subst hout
    have:R0=((un,uv,out,()),((cntM db ls:Nat):Int),0,()):=by
     have:uj (((un,uv,ls,()),(dd,du,db,dt,uid,how,fl,ds,de,by',()),()),())=some (((un,uv,out,()),((cntM db ls:Nat):Int),0,()),()):=by
      simp only [uj,e39,zE,yA,zK,hdi,e30,e0,hok,zH,hS,c1,Int.le_refl,zV,yE,zu,e1]
     rw [this] at hR0
     cases hR0
     rfl
    subst this
    have w1:zZ ((k:Int)+1)=((k+1:Nat):Int):=by rw [zQ (by omega) (by omega)];rfl
    have e63:=F101_eq ly [(un,(uv,(out,())))] k (k+1) hly (by simp) (by omega) (by omega)
    simp only [F104,zH,d0,d1,yE,zu,hg,zE,hdi,zK,e65,w1,e63]
    rfl
structure RelS (m:Mp) (ly:List Ur):Prop where
 fine:FineM m
 rise:ly.Pairwise (λa b=>a.1<b.1)
 len:m.length=ly.length
 same:∀ k:Tx,zG .str m k=ly.find? (λu=>decide (u.1=k))
theorem RelS.nil:RelS [] []:=⟨FineM.nil,List.Pairwise.nil,rfl,λ_=>rfl⟩
theorem RelS.few {m:Mp} {ly:List Ur} (R:RelS m ly):ly.length<=16:=R.len ▸ R.fine.few
theorem fnd_lt {A:List Ur} {nm:Tx} (h:∀ u∈A,u.1<nm):A.find? (λu=>decide (u.1=nm))=none:=by
 rw [List.find?_eq_none]
 intro u hu he
 have:=h u hu
 rw [of_decide_eq_true he] at this
 exact List.lt_irrefl _ this
theorem fnd_gt {A:List Ur} {nm:Tx} (h:∀ u∈A,nm<u.1):A.find? (λu=>decide (u.1=nm))=none:=by
 rw [List.find?_eq_none]
 intro u hu he
 have:=h u hu
 rw [of_decide_eq_true he] at this
 exact List.lt_irrefl _ this
theorem place_facts {ly:List Ur} (hr:ly.Pairwise (λa b=>a.1<b.1)) {nm:Tx} {lo:Nat} (hl:lo<=ly.length) (h3:∀ k,k<lo->(ly.getD k nou).1<nm) (h4:lo<ly.length->¬ (ly.getD lo nou).1<nm) :
  (∀ u∈ly.take lo,u.1<nm) /\
  (((decide (lo<ly.length)&&decide ((ly.getD lo nou).1=nm))=true/\lo<ly.length/\(ly.getD lo nou).1=nm/\∀ u∈ly.drop (lo+1),nm<u.1) \/
   ((decide (lo<ly.length)&&decide ((ly.getD lo nou).1=nm))=false/\∀ u∈ly.drop lo,nm<u.1)):=by
 refine ⟨λu hu=>?_,?_⟩
 ·obtain ⟨i,hi,rfl⟩:=List.mem_take_iff_getElem.1 hu
  have:=h3 i (by omega)
  rwa [getDu_eq (by omega)] at this
 ·by_cases h:lo<ly.length
  ·have hd:ly.drop lo=ly[lo]::ly.drop (lo+1):=List.drop_eq_getElem_cons h
   have hp:(ly.drop lo).Pairwise (λa b=>a.1<b.1):=hr.sublist (List.drop_sublist _ _)
   rw [hd] at hp
   obtain ⟨p1,p2⟩:=List.pairwise_cons.1 hp
   have hge:=h4 h
   by_cases he:(ly.getD lo nou).1=nm
   ·left
    refine ⟨by rw [zX h,zX he];rfl,h,he,λu hu=>?_⟩
    rw [getDu_eq h] at he
    rw [<- he]
    exact p1 u hu
   ·right
    refine ⟨by rw [z7 he,Bool.and_false],λu hu=>?_⟩
    have hlt:=wH hge he
    rw [getDu_eq h] at hlt
    rw [hd] at hu
    rcases List.mem_cons.1 hu with rfl | hu
    ·exact hlt
    ·exact List.lt_trans hlt (p1 u hu)
  ·right
   refine ⟨by simp [h],λu hu=>?_⟩
   rw [List.drop_eq_nil_of_le (by omega)] at hu
   cases hu
structure Place (ly:List Ur) (nm:Tx) (lo:Nat) (there:Bool):Prop where
 f41:F100 ((true,nm,()),((ly,()),()))=some (((lo:Int),there,()),((ly,()),()))
 le:lo<=ly.length
 low:∀ u∈ly.take lo,u.1<nm
 yes:there=true->lo<ly.length/\(ly.getD lo nou).1=nm/\∀ u∈ly.drop (lo+1),nm<u.1
 no:there=false->∀ u∈ly.drop lo,nm<u.1
theorem RelS.place {m:Mp} {ly:List Ur} (R:RelS m ly) (nm:Tx):∃ lo there,Place ly nm lo there:=by
 have hf:=R.few
 obtain ⟨lo,h1,h2,h3,h4⟩:=F100_eq ly nm (by omega)
 obtain ⟨k1,k2⟩:=place_facts R.rise h2 h3 h4
 rcases k2 with ⟨k2,k3⟩ | ⟨k2,k3⟩
 ·rw [k2] at h1
  exact ⟨lo,true,h1,h2,k1,λ_=>k3,nofun⟩
 ·rw [k2] at h1
  exact ⟨lo,false,h1,h2,k1,nofun,λ_=>k3⟩
theorem Place.get {m:Mp} {ly:List Ur} (R:RelS m ly) {nm:Tx} {lo:Nat} {there:Bool} (P:Place ly nm lo there):zG .str m nm=if there=true then some (ly.getD lo nou) else none:=by
 rw [R.same]
 have e:ly.find? (λu=>decide (u.1=nm))=(ly.take lo++ly.drop lo).find? (λu=>decide (u.1=nm)):=by rw [List.take_append_drop]
 rw [e,List.find?_append,fnd_lt P.low,Option.none_or]
 cases there with
 | true =>
  obtain ⟨h1,h2,h3⟩:=P.yes rfl
  rw [List.drop_eq_getElem_cons h1,List.find?_cons]
  rw [getDu_eq h1] at h2 ⊢
  rw [zX h2]
  rfl
 | false =>
  rw [fnd_gt (P.no rfl)]
  rfl
theorem mid_rise {A B:List Ur} {u:Ur} (hA:A.Pairwise (λa b=>a.1<b.1)) (hB:B.Pairwise (λa b=>a.1<b.1)) (h1:∀ x∈A,x.1<u.1) (h2:∀ x∈B,u.1<x.1):(A++[u]++B).Pairwise (λa b=>a.1<b.1):=by
 rw [List.pairwise_append]
 refine ⟨?_,hB,λa ha b hb=>?_⟩
 ·rw [List.pairwise_append]
  refine ⟨hA,List.pairwise_singleton _ _,λa ha b hb=>?_⟩
  rw [List.mem_singleton.1 hb]
  exact h1 a ha
 ·rcases List.mem_append.1 ha with ha | ha
  ·exact List.lt_trans (h1 a ha) (h2 b hb)
  ·rw [List.mem_singleton.1 ha]
   exact h2 b hb
theorem fnd_mid {A B:List Ur} {u:Ur} (h1:∀ x∈A,x.1<u.1) (k:Tx):(A++[u]++B).find? (λx=>decide (x.1=k))=if k=u.1 then some u else (A++B).find? (λx=>decide (x.1=k)):=by
 rw [List.find?_append,List.find?_append,List.find?_append]
 by_cases h:k=u.1
 ·subst h
  rw [if_pos rfl,fnd_lt h1,Option.none_or,List.find?_cons,zX rfl]
  rfl
 ·rw [if_neg h,List.find?_cons,z7 (λe=>h e.symm),List.find?_nil,Option.or_none]
theorem RelS.put {m:Mp} {ly A B:List Ur} {u:Usr} (R:RelS m ly) (F2:FineM (za .str m u.1 (u.1,(u.2.1,(u.2.2.1,()))))) (hlen:(za .str m u.1 (u.1,(u.2.1,(u.2.2.1,())))).length=(A++B).length+1)
  (hA:A.Pairwise (λa b=>a.1<b.1)) (hB:B.Pairwise (λa b=>a.1<b.1)) (h1:∀ x∈A,x.1<u.1) (h2:∀ x∈B,u.1<x.1)
  (hs:∀ k,k≠u.1->ly.find? (λx=>decide (x.1=k))=(A++B).find? (λx=>decide (x.1=k))) :
  RelS (za .str m u.1 (u.1,(u.2.1,(u.2.2.1,())))) (A++[(u.1,(u.2.1,(u.2.2.1,())))]++B) where
 fine:=F2
 rise:=mid_rise hA hB h1 h2
 len:=by
  rw [hlen]
  simp only [yS,vx]
  omega
 same:=λk=>by
  rw [vw KE_str R.fine.nodup,fnd_mid (u:=(u.1,(u.2.1,(u.2.2.1,())))) h1]
  cases hq:yf .str k u.1 with
  | true =>
   have:k=u.1:=(KE_str k u.1).1 hq
   rw [if_pos this,zH]
  | false =>
   have:k≠u.1:=λe=>by rw [(KE_str k u.1).2 e] at hq;cases hq
   rw [if_neg this,zK,R.same,hs k this]
theorem RelS.sub {m:Mp} {ly:List Ur} (R:RelS m ly) (lo:Nat):(ly.take lo).Pairwise (λa b=>a.1<b.1)/\(ly.drop lo).Pairwise (λa b=>a.1<b.1) :=
 ⟨R.rise.sublist (List.take_sublist _ _),R.rise.sublist (List.drop_sublist _ _)⟩
theorem RelS.ins {m:Mp} {ly:List Ur} {u:Usr} (R:RelS m ly) {lo:Nat} (P:Place ly u.1 lo false) (hu:Fine u) (hf:m.length<16) :
  RelS (za .str m u.1 (u.1,(u.2.1,(u.2.2.1,())))) (ly.take lo++[(u.1,(u.2.1,(u.2.2.1,())))]++ly.drop lo):=by
 have hg:=P.get R
 rw [if_neg (by simp)] at hg
 have hl:(za .str m u.1 (u.1,(u.2.1,(u.2.2.1,())))).length=m.length+1:=by
  rw [vu KE_str,hg];rfl
 refine R.put (R.fine.set (by omega) hu rfl) ?_ (R.sub lo).1 (R.sub lo).2 P.low (P.no rfl) λk _=>by rw [List.take_append_drop]
 rw [hl,List.take_append_drop,R.len]
theorem fnd_skip {ly:List Ur} {lo:Nat} {nm k:Tx} (h:lo<ly.length) (he:(ly.getD lo nou).1=nm) (hk:k≠nm):ly.find? (λx=>decide (x.1=k))=(ly.take lo++ly.drop (lo+1)).find? (λx=>decide (x.1=k)):=by
 have e:ly.find? (λx=>decide (x.1=k))=(ly.take lo++ly.drop lo).find? (λx=>decide (x.1=k)):=by rw [List.take_append_drop]
 rw [e,List.find?_append,List.find?_append,List.drop_eq_getElem_cons h,List.find?_cons]
 rw [getDu_eq h] at he
 rw [z7 (λe=>hk (e.symm.trans he))]
theorem RelS.swap {m:Mp} {ly:List Ur} {u:Usr} (R:RelS m ly) {lo:Nat} (P:Place ly u.1 lo true) (hu:Fine u) :
  RelS (za .str m u.1 (u.1,(u.2.1,(u.2.2.1,())))) (ly.take lo++[(u.1,(u.2.1,(u.2.2.1,())))]++ly.drop (lo+1)):=by
 have hg:=P.get R
 rw [if_pos rfl] at hg
 obtain ⟨h1,h2,h3⟩:=P.yes rfl
 have hl:(za .str m u.1 (u.1,(u.2.1,(u.2.2.1,())))).length=m.length:=by
  rw [vu KE_str,hg];rfl
 have hf:=R.few
 have hle:=R.len
 refine R.put (R.fine.set (by omega) hu rfl) ?_ (R.sub lo).1 (R.sub (lo+1)).2 P.low h3 λk hk=>fnd_skip h1 h2 hk
 rw [hl,yS,yy,u0]
 omega
theorem RelS.del {m:Mp} {ly:List Ur} {nm:Tx} (R:RelS m ly) {lo:Nat} (P:Place ly nm lo true):RelS (yZ .str m nm) (ly.take lo++ly.drop (lo+1)) where
 fine:=R.fine.del nm
 rise:=by
  have hs:(ly.take lo++ly.drop (lo+1)).Sublist ly:=by
   have h:(ly.take lo++ly.drop (lo+1)).Sublist (ly.take lo++ly.drop lo):=List.Sublist.append_left (List.drop_sublist_drop_left _ (Nat.le_succ lo)) _
   rw [List.take_append_drop] at h
   exact h
  exact R.rise.sublist hs
 len:=by
  have hg:=P.get R
  rw [if_pos rfl] at hg
  have:=mapDel_len KE_str hg
  have hle:=R.len
  obtain ⟨h1,-,-⟩:=P.yes rfl
  rw [yS,yy,u0]
  omega
 same:=λk=>by
  obtain ⟨h1,h2,h3⟩:=P.yes rfl
  rw [mapGet_del KE_str R.fine.nodup]
  cases hq:yf .str k nm with
  | true =>
   have:k=nm:=(KE_str k nm).1 hq
   subst this
   rw [zH,List.find?_append,fnd_lt P.low,Option.none_or,fnd_gt h3]
  | false =>
   have:k≠nm:=λe=>by rw [(KE_str k nm).2 e] at hq;cases hq
   rw [zK,R.same,fnd_skip h1 h2 this]
theorem F98_both {m:Mp} {ly:List Ur} (R:RelS m ly) {u:Usr} (hu:Fine u):∃ ly',F98 ((true,u,()),((ly,()),()))=some ((come m u).1,((ly',()),()))/\RelS (come m u).2 ly'/\((come m u).1≠0->(come m u).2=m/\ly'=ly):=by
 obtain ⟨lo,there,P⟩:=R.place u.1
 have hf:=R.few
 have hg:=P.get R
 have hle:=R.len
 obtain ⟨un,uv,ls,⟨⟩⟩:=u
 unfold come
 have f41:=P.f41
 simp only at f41 hg P ⊢
 cases there with
 | true =>
  rw [if_pos rfl] at hg
  rw [hg]
  refine ⟨ly,?_,?_,?_⟩
  ·simp only [F98,f41,zE,zH,Option.isSome_some,↓reduceIte]
  ·simp only [Option.isSome_some,↓reduceIte];exact R
  ·simp
 | false =>
  rw [if_neg (by simp)] at hg
  rw [hg]
  simp only [Option.isSome_none,Bool.false_eq_true,↓reduceIte]
  by_cases h16:m.length=16
  ·rw [if_pos h16]
   refine ⟨ly,?_,R,λ_=>⟨rfl,rfl⟩⟩
   have c:decide ((16:Int)<=((ly.length:Nat):Int))=true:=zX (by omega)
   simp only [F98,f41,zE,zK,zH,c]
  ·rw [if_neg h16]
   have hf2:=R.fine.few
   have c:decide ((16:Int)<=((ly.length:Nat):Int))=false:=z7 (by omega)
   have e63:=F101_eq ly [(un,(uv,(ls,())))] lo lo (by omega) (by simp) P.le P.le
   refine ⟨ly.take lo++[(un,(uv,(ls,())))]++ly.drop lo,?_,?_,?_⟩
   ·simp only [F98,f41,zE,zK,zH,c,e63]
   ·exact R.ins (u:=(un,uv,ls,())) P hu (by omega)
   ·simp
theorem nm_lt {ls:List Bx} (hr:ls.Pairwise (λa b=>a.1<b.1)) {lo:Nat} (h:lo<ls.length):(∀ b∈ls.take lo,b.1<(ls.getD lo yH).1)/\(∀ b∈ls.drop (lo+1),(ls.getD lo yH).1<b.1):=by
 have hd:ls.drop lo=ls[lo]::ls.drop (lo+1):=List.drop_eq_getElem_cons h
 rw [wR h]
 refine ⟨λb hb=>?_,λb hb=>?_⟩
 ·obtain ⟨i,hi,rfl⟩:=List.mem_take_iff_getElem.1 hb
  exact List.pairwise_iff_getElem.1 hr i lo (by omega) h (by omega)
 ·have hp:(ls.drop lo).Pairwise (λa b=>a.1<b.1):=hr.sublist (List.drop_sublist _ _)
  rw [hd] at hp
  exact (List.pairwise_cons.1 hp).1 b hb
theorem filter_self {ls:List Bx} {nm:Tx} (h:∀ b∈ls,b.1≠nm):but ls nm=ls:=by
 unfold but
 rw [List.filter_eq_self]
 intro b hb
 rw [z7 (h b hb)]
 rfl
theorem but_none {ls:List Bx} {nm:Tx} (h:yp ls nm=false):but ls nm=ls:=by
 refine filter_self λb hb e=>?_
 unfold yp at h
 rw [List.any_eq_false] at h
 exact h b hb (zX e)
theorem split_at {ls:List Bx} {lo:Nat} (h:lo<ls.length):ls=ls.take lo++ls.getD lo yH::ls.drop (lo+1):=by
 rw [wR h,<- List.drop_eq_getElem_cons h,List.take_append_drop]
theorem but_at {ls:List Bx} (hr:ls.Pairwise (λa b=>a.1<b.1)) {lo:Nat} (h:lo<ls.length) {nm:Tx} (he:(ls.getD lo yH).1=nm):but ls nm=ls.take lo++ls.drop (lo+1):=by
 obtain ⟨h1,h2⟩:=nm_lt hr h
 rw [he] at h1 h2
 have e1:but (ls.take lo) nm=ls.take lo:=filter_self λb hb e=>absurd (e ▸ h1 b hb) (List.lt_irrefl _)
 have e2:but (ls.drop (lo+1)) nm=ls.drop (lo+1):=filter_self λb hb e=>absurd (e ▸ h2 b hb) (List.lt_irrefl _)
 have hb:∀ l,but l nm=l.filter λb=>!decide (b.1=nm):=λ_=>rfl
 rw [hb] at e1 e2
 conv=>lhs;rw [split_at h,hb,List.filter_append,List.filter_cons]
 rw [zX he,e1,e2]
 rfl
theorem one_none {nm:Tx}:∀ (ls:List Bx) (o:Box),(∀ b∈ls,b.1≠nm)->ls.foldl (oneG nm) o=o
 | [],_,_=>rfl
 | a::t,o,h=>by
  rw [List.foldl_cons,show oneG nm o a=o from if_neg (h a (List.mem_cons_self ..))]
  exact one_none t o λb hb=>h b (List.mem_cons_of_mem _ hb)
theorem one_at {ls:List Bx} (hr:ls.Pairwise (λa b=>a.1<b.1)) {lo:Nat} (h:lo<ls.length) {nm:Tx} (he:(ls.getD lo yH).1=nm) (o:Box):ls.foldl (oneG nm) o=yI (ls.getD lo yH):=by
 obtain ⟨h1,h2⟩:=nm_lt hr h
 rw [he] at h1 h2
 conv=>lhs;rw [split_at h,List.foldl_append,List.foldl_cons]
 have k:∀ o',oneG nm o' (ls.getD lo yH)=yI (ls.getD lo yH):=λ_=>if_pos he
 rw [k,one_none (ls.drop (lo+1)) _ λb hb e=>absurd (e ▸ h2 b hb) (List.lt_irrefl _)]
theorem set_split {ls:List Bx} {lo:Nat} (h:lo<ls.length) (b:Bx):ls.set lo b=ls.take lo++[b]++ls.drop (lo+1):=by
 rw [List.set_eq_take_append_cons_drop,if_pos h]
 simp
theorem lay_set {ls:List Bx} (hr:ls.Pairwise (λa b=>a.1<b.1)) {lo:Nat} (h:lo<ls.length) (b:Bx) (he:b.1=(ls.getD lo yH).1):lay1 b (ls.take lo++ls.drop (lo+1))=ls.set lo b:=by
 obtain ⟨h1,h2⟩:=nm_lt hr h
 refine rise_eq ?_ (lay1_rise _ _ (hr.sublist (del_sub ls lo)) λx hx e=>?_) (set_rise hr he h)
 ·rw [set_split h]
  refine (vY _ _).trans ?_
  rw [lAs]
  exact List.perm_middle.symm
 ·rw [he] at e
  rcases List.mem_append.1 hx with hx | hx
  ·exact absurd (e ▸ h1 x hx) (List.lt_irrefl _)
  ·exact absurd (e ▸ h2 x hx) (List.lt_irrefl _)
theorem lay_ins {ls:List Bx} (hr:ls.Pairwise (λa b=>a.1<b.1)) {lo:Nat} {x:Bx} (h1:∀ k,k<lo->(ls.getD k yH).1<x.1) (h2:∀ k,lo<=k->k<ls.length->x.1<(ls.getD k yH).1) (hn:∀ b∈ls,b.1≠x.1) :
  lay1 x ls=ls.take lo++[x]++ls.drop lo:=by
 refine rise_eq ?_ (lay1_rise _ _ hr hn) (ins_rise hr h1 h2)
 refine (vY _ _).trans ?_
 rw [lAs]
 have:=(List.perm_middle (a:=x) (l₁:=ls.take lo) (l₂:=ls.drop lo)).symm
 rw [List.take_append_drop] at this
 exact this
structure Both (m:Mp) (ly:List Ur) (d:Dd):Prop where
 ex:∃ n e m' n' ly',F92 ((true,d,()),(((),()),m,()))=some ((n,e,()),(((),()),m',()))/\F78 ((true,d,()),((ly,()),()))=some ((n',e,()),((ly',()),()))/\(e=0->n'=n)/\RelS m' ly'/\(e≠0->m'=m/\ly'=ly)
abbrev Small3 (d:Dd):Prop:=d.2.1.length<=1050000/\d.2.2.1.length<=1050000/\d.2.2.2.1.length<=1050000
theorem kept_both {m:Mp} {ly:List Ur} (R:RelS m ly) {nm:Tx} {lo:Nat} (P:Place ly nm lo true) (r:Usr×Int×Int×Unit) (h:r.2.2.1=0->Fine r.1/\r.1.1=nm) :
  RelS (kept m nm r).2 (if r.2.2.1=0 then ly.take lo++[(r.1.1,(r.1.2.1,(r.1.2.2.1,())))]++ly.drop (lo+1) else ly)/\(r.2.2.1≠0->(kept m nm r).2=m):=by
 unfold kept
 simp only
 by_cases h0:r.2.2.1=0
 ·rw [if_pos h0,if_pos h0]
  obtain ⟨h1,h2⟩:=h h0
  subst h2
  exact ⟨R.swap P h1,λh=>absurd h0 h⟩
 ·rw [if_neg h0,if_neg h0]
  exact ⟨R,λ_=>rfl⟩
theorem Both.of {m:Mp} {ly:List Ur} (R:RelS m ly) {d:Dd} {lo:Nat} (P:Place ly d.2.1 lo true) {r:Usr×Int×Int×Unit} (h:r.2.2.1=0->Fine r.1/\r.1.1=d.2.1)
  (h1:F92 ((true,d,()),(((),()),m,()))=some ((kept m d.2.1 r).1,(((),()),(kept m d.2.1 r).2,())))
  (h2:F78 ((true,d,()),((ly,()),()))=some ((if r.2.2.1=0 then (r.2.1,0,()) else (0,r.2.2.1,())),(((if r.2.2.1=0 then ly.take lo++[(r.1.1,(r.1.2.1,(r.1.2.2.1,())))]++ly.drop (lo+1) else ly),()),()))):Both m ly d:=by
 obtain ⟨k1,k2⟩:=kept_both R P r h
 by_cases h0:r.2.2.1=0
 ·rw [if_pos h0] at h2 k1
  rw [if_pos h0] at h2
  exact ⟨r.2.1,0,_,_,_,by rw [h1];unfold kept;simp only [h0],h2,λ_=>rfl,k1,λh=>absurd rfl h⟩
 ·rw [if_neg h0] at h2 k1
  rw [if_neg h0] at h2
  exact ⟨r.2.1,r.2.2.1,_,_,_,by rw [h1];unfold kept;rfl,h2,λh=>absurd h h0,k1,λ_=>⟨k2 h0,rfl⟩⟩
theorem deed_both {m:Mp} {ly:List Ur} (R:RelS m ly) (d:Dd) (hs:Small3 d):Both m ly d:=by
 obtain ⟨s1,s2,s3⟩:=hs
 have hml:(1050000:Nat)<=maxLen:=by decide
 have e60:=F97_F73 d (by omega) (by omega) (by omega)
 obtain ⟨e0,hc,hC⟩:=F117_ex d (by omega)
 rw [hc] at e60
 have hf:=R.few
 by_cases he0:e0=0
 rotate_left
 ·refine ⟨0,e0,m,0,ly,F92_bad m d e0 hc he0,?_,λ_=>rfl,R,λ_=>⟨rfl,rfl⟩⟩
  obtain ⟨dd,du,db,dt,uid,how,fl,ds,de,by',⟨⟩⟩:=d
  simp only [F78,e60,zE,z7 he0,yx,zH]
 subst he0
 obtain ⟨C,hE⟩:=hC rfl
 have hrange:1<=d.1/\d.1<=9:=by
  by_cases h:1<=d.1/\d.1<=9
  ·exact h
  ·exfalso
   obtain ⟨dd,du,db,dt,uid,how,fl,ds,de,by',⟨⟩⟩:=d
   have c:(decide (dd<1)||decide (9<dd))=true:=by
    rw [Bool.or_eq_true,xh,xh];simp only at h;omega
   simp only [F97,c,zH,xC,Prod.mk.injEq] at e60
   omega
 by_cases h1:d.1=1
 ·obtain ⟨ly',e61,R',hne⟩:=F98_both R (new_fine C.user)
  refine ⟨1,_,_,1,ly',F92_open m d hc h1,?_,λ_=>rfl,R',hne⟩
  obtain ⟨dd,du,db,dt,uid,how,fl,ds,de,by',⟨⟩⟩:=d
  simp only at h1 e61 ⊢
  subst h1
  unfold tS inbx at e61
  simp only [F78,e60,zE,zV,yA,zK,zH,e61]
  rfl
 by_cases h8:d.1=8
 ·obtain ⟨u,h75,_,hF⟩:=hE h8
  obtain ⟨ly',e61,R',hne⟩:=F98_both R hF
  refine ⟨0,_,_,0,ly',F92_enter m d u hc h8 h75,?_,λ_=>rfl,R',hne⟩
  obtain ⟨dd,du,db,dt,uid,how,fl,ds,de,by',⟨⟩⟩:=d
  have e62:=F99_took by'
  have e75:=F119_took by'
  simp only at h75 h8
  rw [h75] at e75
  subst h8
  simp only [xC,Prod.mk.injEq,and_true] at e75
  obtain ⟨q1,q2⟩:=e75
  rw [<- q1] at e62
  obtain ⟨un,uv,ls,⟨⟩⟩:=u
  simp only at e62
  simp only [F78,e60,zE,zV,yA,zK,zH,show decide ((8:Int)=1)=false from rfl,e62,e61]
 obtain ⟨lo,there,P⟩:=R.place d.2.1
 have hg:=P.get R
 have f41:=P.f41
 cases there with
 | false =>
  rw [if_neg (by simp)] at hg
  refine ⟨0,9,m,0,ly,F92_gone m d hc h1 h8 hg,?_,λ_=>rfl,R,λ_=>⟨rfl,rfl⟩⟩
  obtain ⟨dd,du,db,dt,uid,how,fl,ds,de,by',⟨⟩⟩:=d
  simp only at h1 h8 f41
  simp only [F78,e60,zE,zV,yA,zK,zH,z7 h1,z7 h8,f41,yx]
 | true =>
 rw [if_pos rfl] at hg
 obtain ⟨p1,p2,p3⟩:=P.yes rfl
 have w1:zZ ((lo:Int)+1)=((lo+1:Nat):Int):=by rw [zQ (by omega) (by omega)];rfl
 by_cases h9:d.1=9
 ·refine ⟨0,0,_,0,_,F92_leave m d _ hc h9 hg,?_,λ_=>rfl,R.del P,λh=>absurd rfl h⟩
  have e63:=F101_eq ly [] lo (lo+1) (by omega) (by simp) P.le (by omega)
  rw [List.append_nil] at e63
  obtain ⟨dd,du,db,dt,uid,how,fl,ds,de,by',⟨⟩⟩:=d
  simp only at h1 h8 h9 f41
  subst h9
  simp only [F78,e60,zE,zV,yA,zK,zH,show decide ((9:Int)=1)=false from rfl,show decide ((9:Int)=8)=false from rfl,f41,w1,e63]
 obtain ⟨u,hu⟩:∃ u,ly.getD lo nou=u:=⟨_,rfl⟩
 rw [hu] at hg p2
 obtain ⟨Fu,hk⟩:=R.fine.fine d.2.1 u hg
 have Gu:Good (usr u):=Fu.good
 have g1:=Gu.few
 have g2:=Gu.rise
 have d0:decide ((lo:Int)<((ly.length:Nat):Int))=true:=zX (by omega)
 have d1:decide ((0:Int)<=(lo:Int))=true:=zX (by omega)
 have e40:=F102_eq (usr u) d.2.2.1 (by omega)
 have e63:=λx:Ur=>F101_eq ly [x] lo (lo+1) (by omega) (by simp) P.le (by omega)
 have hex:∃ x,x=u:=⟨u,rfl⟩
 obtain ⟨un,uv,ls,⟨⟩⟩:=u
 have hu':ly.getD lo (([]:Tx),((0:Int),(([]:(List Bx)),())))=(un,(uv,(ls,()))):=hu
 unfold usr at e40 Gu g1 g2
 simp only at e40 g1 g2
 by_cases h2:d.1=2
 ·obtain ⟨lb,e1,e2,e3,e4,e5,e6⟩:=F120_eq (un,uv,ls,()) d (by simp only;omega) g2
  simp only at e2 e3 e4 e5 e6
  refine Both.of R P (r:=xy (un,uv,ls,()) lb d) (λhe=>?_) (F92_shape m d _ lb hc (.inl h2) hg e1) ?_
  ·obtain ⟨q1,q2⟩:=make_fine Fu d h2 e2 e3 e4 e6 (C.box h2) he
   exact ⟨q1,q2.trans hk⟩
  ·have hrB:=C.box h2
   by_cases hE0:(xy (un,uv,ls,()) lb d).2.2.1=0
   ·obtain ⟨-,hh,hsh⟩:=make_good Gu d h2 e2 e3 e4 e6 hE0
    simp only at hh hsh
    have hv:=Gu.valid
    have hno:¬ (6<=ls.length\/4294967295<=uv):=by
     unfold xy at hE0
     rw [if_pos h2,if_neg (by simp only;rw [hh];simp)] at hE0
     simp only at hE0 hv
     by_cases h':ls.length=6\/uv=4294967295
     ·rw [if_pos h'] at hE0;simp at hE0
     ·omega
    rw [hsh]
    have e64:=F103_eq ls (d.2.2.1,(uv+1,(1,([],())))) (by omega)
    rw [lay_ins g2 e3 (λk h1 h2=>wH (e4 k h1 h2) (e6 hh k h2)) (λb hb=>by
     obtain ⟨k,hk,rfl⟩:=List.getElem_of_mem hb
     have:=e6 hh k hk
     rwa [wR hk] at this)] at e64
    rw [hh,but_none hh] at e40
    obtain ⟨dd,du,db,dt,uid,how,fl,ds,de,by',⟨⟩⟩:=d
    simp only at h1 h2 h8 f41 e40 hv e63 e64
    subst h2
    have hw:zZ (uv+1)=uv+1:=zQ (by omega) (by omega)
    have c2:(decide ((6:Int)<=((ls.length:Nat):Int))||decide ((4294967295:Int)<=uv))=false:=by
     rw [Bool.or_eq_false_iff,decide_eq_false_iff_not,decide_eq_false_iff_not];omega
    unfold yI at e64
    simp only at e64
    simp only [F78,e60,zE,zV,yA,zK,zH,show decide ((2:Int)=1)=false from rfl,show decide ((2:Int)=8)=false from rfl,show decide ((2:Int)=9)=false from rfl,f41,d0,d1,yE,zu,hu',e40,c2,hw,e64,w1,e63,↓reduceIte]
   ·unfold xy at hE0 ⊢
    rw [if_pos h2] at hE0 ⊢
    simp only at hE0 ⊢
    cases hh:yp ls d.2.2.1 with
    | true =>
     rw [hh] at e40
     simp only [↓reduceIte]
     obtain ⟨dd,du,db,dt,uid,how,fl,ds,de,by',⟨⟩⟩:=d
     simp only at h1 h2 h8 f41 e40
     subst h2
     simp only [F78,e60,zE,zV,yA,zK,zH,show decide ((2:Int)=1)=false from rfl,show decide ((2:Int)=8)=false from rfl,show decide ((2:Int)=9)=false from rfl,f41,d0,d1,yE,zu,hu',e40]
     rfl
    | false =>
     rw [hh] at e40 hE0
     simp only [Bool.false_eq_true,↓reduceIte] at hE0 ⊢
     by_cases hfull:ls.length=6\/uv=4294967295
     ·rw [if_pos hfull]
      have c2:(decide ((6:Int)<=((ls.length:Nat):Int))||decide ((4294967295:Int)<=uv))=true:=by
       rw [Bool.or_eq_true,xh,xh];omega
      obtain ⟨dd,du,db,dt,uid,how,fl,ds,de,by',⟨⟩⟩:=d
      simp only at h1 h2 h8 f41 e40
      subst h2
      simp only [F78,e60,zE,zV,yA,zK,zH,show decide ((2:Int)=1)=false from rfl,show decide ((2:Int)=8)=false from rfl,show decide ((2:Int)=9)=false from rfl,f41,d0,d1,yE,zu,hu',e40,c2]
      rfl
     ·rw [if_neg hfull] at hE0
      exact absurd rfl hE0
 by_cases h7:d.1=7
 ·cases hh:yp ls d.2.2.1 with
  | false =>
   have e77:uj (((un,uv,ls,()),d,()),())=some (((un,uv,ls,()),0,9,()),()):=by
    obtain ⟨lb,e39,_,_,_,_,_⟩:=F140_eq (un,uv,ls,()) d.2.2.1 (by simp only;omega) g2
    simp only at e39
    rw [hh] at e39
    obtain ⟨dd,du,db,dt,uid,how,fl,ds,de,by',⟨⟩⟩:=d
    simp only at e39
    simp only [uj,e39,zE,yx,zH]
   refine Both.of R P (r:=((un,uv,ls,()),0,9,())) (λhe=>absurd he (by simp)) (tq m d _ _ hc h7 hg e77) ?_
   rw [hh] at e40
   obtain ⟨dd,du,db,dt,uid,how,fl,ds,de,by',⟨⟩⟩:=d
   simp only at h1 h2 h7 h8 f41 e40
   subst h7
   simp only [F78,e60,zE,zV,yA,zK,zH,show decide ((7:Int)=1)=false from rfl,show decide ((7:Int)=8)=false from rfl,show decide ((7:Int)=9)=false from rfl,show decide ((7:Int)=2)=false from rfl,f41,d0,d1,yE,zu,hu',e40,yx]
   rfl
  | true =>
   obtain ⟨r,e77,hr,e65⟩:=ren_both Fu d s3 hh ly lo p1 (by omega) hu
   refine Both.of R P (r:=r) (λhe=>?_) (tq m d _ _ hc h7 hg e77) ?_
   ·obtain ⟨q1,q2⟩:=hr he
    exact ⟨q1,q2.trans hk⟩
   ·rw [hh] at e40
    obtain ⟨dd,du,db,dt,uid,how,fl,ds,de,by',⟨⟩⟩:=d
    simp only at h1 h2 h7 h8 f41 e40
    subst h7
    simp only [F78,e60,zE,zV,yA,zK,zH,show decide ((7:Int)=1)=false from rfl,show decide ((7:Int)=8)=false from rfl,show decide ((7:Int)=9)=false from rfl,show decide ((7:Int)=2)=false from rfl,f41,d0,d1,yE,zu,hu',e40,e65]
 by_cases h3:d.1=3
 ·obtain ⟨lb,e1,e2,e3,e4,e5,e6⟩:=F120_eq (un,uv,ls,()) d (by simp only;omega) g2
  simp only at e2 e3 e4 e5 e6
  refine Both.of R P (r:=xy (un,uv,ls,()) lb d) (λhe=>?_) (F92_shape m d _ lb hc (.inr h3) hg e1) ?_
  ·obtain ⟨q1,q2⟩:=drop_fine Fu d h2 e5 he
   exact ⟨q1,q2.trans hk⟩
  ·by_cases hE0:(xy (un,uv,ls,()) lb d).2.2.1=0
   ·obtain ⟨-,hsh⟩:=drop_good Gu d h2 hE0
    simp only at hsh
    have hq:yp ls d.2.2.1=true/\d.2.2.1≠inbx:=by
     unfold xy at hE0
     rw [if_neg h2] at hE0
     simp only at hE0
     cases hh:yp ls d.2.2.1 with
     | false=>rw [hh] at hE0;simp at hE0
     | true =>
      refine ⟨rfl,λe=>?_⟩
      rw [hh,e] at hE0
      simp at hE0
    obtain ⟨hh,hni⟩:=hq
    obtain ⟨k1,k2⟩:=e5 hh
    rw [hsh]
    rw [hh,but_at g2 k1 k2] at e40
    have hni':decide (d.2.2.1=([73,78,66,79,88]:Tx))=false:=z7 hni
    obtain ⟨dd,du,db,dt,uid,how,fl,ds,de,by',⟨⟩⟩:=d
    simp only at h1 h2 h3 h8 f41 e40 hni' e63
    subst h3
    simp only [F78,e60,zE,zV,yA,zK,zH,show decide ((3:Int)=1)=false from rfl,show decide ((3:Int)=8)=false from rfl,show decide ((3:Int)=9)=false from rfl,show decide ((3:Int)=2)=false from rfl,show decide ((3:Int)=7)=false from rfl,f41,d0,d1,yE,zu,hu',e40,hni',w1,e63,↓reduceIte]
   ·unfold xy at hE0 ⊢
    rw [if_neg h2] at hE0 ⊢
    simp only at hE0 ⊢
    cases hh:yp ls d.2.2.1 with
    | false =>
     rw [hh] at e40
     simp only [↓reduceIte]
     obtain ⟨dd,du,db,dt,uid,how,fl,ds,de,by',⟨⟩⟩:=d
     simp only at h1 h2 h3 h8 f41 e40
     subst h3
     simp only [F78,e60,zE,zV,yA,zK,zH,show decide ((3:Int)=1)=false from rfl,show decide ((3:Int)=8)=false from rfl,show decide ((3:Int)=9)=false from rfl,show decide ((3:Int)=2)=false from rfl,f41,d0,d1,yE,zu,hu',e40,yx]
     rfl
    | true =>
     rw [hh] at e40 hE0
     simp only [Bool.true_eq_false,↓reduceIte] at hE0 ⊢
     by_cases hin:d.2.2.1=inbx
     ·rw [if_pos hin]
      have hin':decide (d.2.2.1=([73,78,66,79,88]:Tx))=true:=zX hin
      obtain ⟨dd,du,db,dt,uid,how,fl,ds,de,by',⟨⟩⟩:=d
      simp only at h1 h2 h3 h8 f41 e40 hin'
      subst h3
      simp only [F78,e60,zE,zV,yA,zK,zH,show decide ((3:Int)=1)=false from rfl,show decide ((3:Int)=8)=false from rfl,show decide ((3:Int)=9)=false from rfl,show decide ((3:Int)=2)=false from rfl,show decide ((3:Int)=7)=false from rfl,f41,d0,d1,yE,zu,hu',e40,hin']
      rfl
     ·rw [if_neg hin] at hE0
      exact absurd rfl hE0
 rcases F122_eq (un,uv,ls,()) d (by simp only;omega) Gu.len g2 with ⟨hh,e1⟩ | ⟨lb,l1,l2,e1⟩
 ·refine Both.of R P (r:=((un,uv,ls,()),0,9,())) (λhe=>absurd he (by simp)) (F92_box m d _ _ hc h1 h2 h3 h7 h8 h9 hg e1) ?_
  simp only at hh
  rw [hh] at e40
  obtain ⟨dd,du,db,dt,uid,how,fl,ds,de,by',⟨⟩⟩:=d
  simp only at h1 h2 h3 h7 h8 h9 f41 e40
  simp only [F78,e60,zE,zV,yA,zK,zH,z7 h1,z7 h2,z7 h8,z7 h9,f41,d0,d1,yE,zu,hu',e40,yx]
  rfl
 ·simp only at l1 l2
  refine Both.of R P (r:=boxd (un,uv,ls,()) lb d) (λhe=>?_) (F92_box m d _ _ hc h1 h2 h3 h7 h8 h9 hg e1) ?_
  ·obtain ⟨q1,q2⟩:=boxd_fine Fu l1 d he
   exact ⟨q1,q2.trans hk⟩
  ·have hh:yp ls d.2.2.1=true:=by
    unfold yp
    exact List.any_eq_true.2 ⟨_,v6 l1,zX l2⟩
   rw [hh,but_at g2 l1 l2,one_at g2 l1 l2] at e40
   have Rb:Right (yI (ls.getD lb yH)):=Gu.each _ (v6 l1)
   have hbx:∃ q:(Int×Int×Box),q=((did (yI (ls.getD lb yH)) d).2.2,(did (yI (ls.getD lb yH)) d).2.1,(did (yI (ls.getD lb yH)) d).1):=⟨_,rfl⟩
   have hkept:=did_kept Rb d
   have key:∀ (B:Box) (n e:Int),did (yI (ls.getD lb yH)) d=(B,n,e) ->
     (∀ x,F78 ((true,d,()),((ly,()),()))=x<->(cond (!(decide (e=0))) (some (((0:Int),e,()),((ly,()),()))) (Option.bind (F103 ((ls.take lb++ls.drop (lb+1),B,()),())) λr33=>Option.bind (F47 (((un,uv,r33.2.1,()),()),())) λr34 =>
      cond (!(decide (r34.1=(0:Int)))) (some (((0:Int),(8:Int),()),((ly,()),()))) (Option.bind (F101 ((true,(lo:Int),((lo+1:Nat):Int),[(un,(uv,(r33.2.1,())))],()),((ly,()),()))) λr35=>some ((n,(0:Int),()),((r35.2.2.1,()),())))))=x):=by
    intro B n e hd x
    have h456:d.1=4\/d.1=5\/d.1=6:=by omega
    unfold did at hd
    obtain ⟨⟨bn,bv,bx,bl,⟨⟩⟩,hgb⟩:∃ b,ls.getD lb yH=b:=⟨_,rfl⟩
    rw [hgb] at hd e40
    unfold yI at hd e40
    simp only at hd e40
    obtain ⟨dd,du,db,dt,uid,how,fl,ds,de,by',⟨⟩⟩:=d
    simp only at h1 h2 h3 h7 h8 h9 f41 e40 hd h456
    rcases h456 with rfl | rfl | rfl
    ·have e66:=F105_eq (bn,bv,bx,bl,()) fl by'
     rw [if_pos rfl] at hd
     generalize add (bn,bv,bx,bl,()) fl by'=q at e66 hd
     obtain ⟨⟨qn,qv,qx,ql,⟨⟩⟩,qm,qe,⟨⟩⟩:=q
     cases hd
     simp only [F78,e60,zE,zV,yA,zK,zH,show decide ((4:Int)=1)=false from rfl,show decide ((4:Int)=8)=false from rfl,show decide ((4:Int)=9)=false from rfl,show decide ((4:Int)=2)=false from rfl,show decide ((4:Int)=7)=false from rfl,show decide ((4:Int)=3)=false from rfl,f41,d0,d1,yE,zu,hu',e40,e66,w1]
    ·have e67:=F106_eq (bn,bv,bx,bl,()) uid how fl
     rw [if_neg (by decide),if_pos rfl] at hd
     generalize flag (bn,bv,bx,bl,()) uid how fl=q at e67 hd
     obtain ⟨⟨qn,qv,qx,ql,⟨⟩⟩,qe,⟨⟩⟩:=q
     cases hd
     simp only [F78,e60,zE,zV,yA,zK,zH,show decide ((5:Int)=1)=false from rfl,show decide ((5:Int)=8)=false from rfl,show decide ((5:Int)=9)=false from rfl,show decide ((5:Int)=2)=false from rfl,show decide ((5:Int)=7)=false from rfl,show decide ((5:Int)=3)=false from rfl,show decide ((5:Int)=4)=false from rfl,f41,d0,d1,yE,zu,hu',e40,e67,w1]
    ·have e68:=F107_eq (bn,bv,bx,bl,()) uid
     rw [if_neg (by decide),if_neg (by decide),if_pos rfl] at hd
     generalize cut (bn,bv,bx,bl,()) uid=q at e68 hd
     obtain ⟨⟨qn,qv,qx,ql,⟨⟩⟩,qe,⟨⟩⟩:=q
     cases hd
     simp only [F78,e60,zE,zV,yA,zK,zH,show decide ((6:Int)=1)=false from rfl,show decide ((6:Int)=8)=false from rfl,show decide ((6:Int)=9)=false from rfl,show decide ((6:Int)=2)=false from rfl,show decide ((6:Int)=7)=false from rfl,show decide ((6:Int)=3)=false from rfl,show decide ((6:Int)=4)=false from rfl,show decide ((6:Int)=5)=false from rfl,f41,d0,d1,yE,zu,hu',e40,e68,w1]
   obtain ⟨⟨B,n,e⟩,hd⟩:∃ q,did (yI (ls.getD lb yH)) d=q:=⟨_,rfl⟩
   rw [key B n e hd]
   rw [hd] at hkept
   unfold boxd
   simp only
   rw [hd]
   simp only at hkept ⊢
   by_cases he:e=0
   ·subst he
    have K:=hkept rfl
    have hBn:(wa B).1=(ls.getD lb yH).1:=K.name
    have hB:B=yI (wa B):=by
     obtain ⟨qn,qv,qx,ql,⟨⟩⟩:=B
     rfl
    have e64:=F103_eq (ls.take lb++ls.drop (lb+1)) (wa B) (by rw [yS,yy,u0];omega)
    rw [<- hB,lay_set g2 l1 (wa B) hBn] at e64
    have hnames:∀ b∈ls.set lb (wa B),b.1.length<=24:=λb hb=>by
     rcases List.mem_or_eq_of_mem_set hb with h | rfl
     ·exact wz (Fu.names b h)
     ·rw [hBn];exact wz (Fu.names _ (v6 l1))
    simp only [ne_eq,not_true_eq_false,↓reduceIte,zV,yA,zK,e64,zE]
    by_cases hw:wth (ls.set lb (wa B))=true
    ·have hb0:boxd (un,uv,ls,()) lb d=((un,uv,ls.set lb (wa B),()),n,0,()):=by
      unfold boxd
      simp only
      rw [hd]
      simp [hw]
     obtain ⟨q1,q2⟩:=boxd_fine Fu l1 d (by rw [show usr (un,(uv,(ls,())))=(un,uv,ls,()) from rfl,hb0])
     rw [show usr (un,(uv,(ls,())))=(un,uv,ls,()) from rfl,hb0] at q1
     have e13:=F47_eq q1
     rw [if_pos hw]
     simp only [e13,zE,zV,yA,zK,e63,↓reduceIte]
    ·rw [if_neg hw]
     have hul:un.length<=24:=user_le Fu.user
     have e13:=F47_F44 (un,uv,ls.set lb (wa B),()) (by simp only;omega) λb hb=>Nat.le_trans (hnames b hb) (by decide)
     obtain ⟨e',e44,hF⟩:=F74_ex (un,uv,ls.set lb (wa B),()) (by simp only;omega)
     rw [e44] at e13
     have hne:e'≠0:=λh=>hw (hF h).room
     simp only [e13,zE,z7 hne,yx,zH]
     rfl
   ·rw [if_pos he]
    rw [z7 he,if_neg he,if_neg he]
    rfl
end Go.Fl
