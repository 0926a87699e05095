/- Texts that the last one leans on, 11. -/
import Derived.Test.YtipfcejaekfogaaGreatDoorTJ
import Derived.Shelf.Vars
namespace Go.So
open Go Go.Ev
set_option maxRecDepth 100000
theorem nm_lt {ls:List Bx} (hr:ls.Pairwise (λa b=>a.1<b.1)) {lo:Nat} (h:lo<ls.length):(∀ b∈ls.take lo,b.1<(ls.getD lo yE).1)/\(∀ b∈ls.drop (lo+1),(ls.getD lo yE).1<b.1):=by
 have hd:ls.drop lo=ls[lo]::ls.drop (lo+1):=List.drop_eq_getElem_cons h;rw [vd h];refine ⟨λb hb=>?_,λb hb=>?_⟩
 ·obtain ⟨i,hi,rfl⟩:=List.mem_take_iff_getElem.1 hb;exact List.pairwise_iff_getElem.1 hr i lo (by omega) h (by omega)
 ·have hp:(ls.drop lo).Pairwise (λa b=>a.1<b.1):=hr.sublist (List.drop_sublist _ _);rw [hd] at hp;exact (List.pairwise_cons.1 hp).1 b hb
theorem filter_self {ls:List Bx} {nm:Tx} (h:∀ b∈ls,b.1≠nm):but ls nm=ls:=by
 unfold but;rw [List.filter_eq_self];intro b hb;rw [yv (h b hb)];rfl
theorem but_none {ls:List Bx} {nm:Tx} (h:yX ls nm=false):but ls nm=ls:=by
 refine filter_self λb hb e=>?_
 unfold yX at h;rw [List.any_eq_false] at h;exact h b hb (zm e)
theorem split_at {ls:List Bx} {lo:Nat} (h:lo<ls.length):ls=ls.take lo++ls.getD lo yE::ls.drop (lo+1):=by
 rw [vd h,<- List.drop_eq_getElem_cons h,List.take_append_drop]
theorem but_at {ls:List Bx} (hr:ls.Pairwise (λa b=>a.1<b.1)) {lo:Nat} (h:lo<ls.length) {nm:Tx} (he:(ls.getD lo yE).1=nm):but ls nm=ls.take lo++ls.drop (lo+1):=by
 obtain ⟨h1,h2⟩:=nm_lt hr h;rw [he] at h1 h2;have e1:but (ls.take lo) nm=ls.take lo:=filter_self λb hb e=>absurd (e ▸ h1 b hb) (List.lt_irrefl _)
 have e2:but (ls.drop (lo+1)) nm=ls.drop (lo+1):=filter_self λb hb e=>absurd (e ▸ h2 b hb) (List.lt_irrefl _)
 have hb:∀ l,but l nm=l.filter λb=>!decide (b.1=nm):=λ_=>rfl
 rw [hb] at e1 e2
 conv=>lhs;rw [split_at h,hb,List.filter_append,List.filter_cons]
 rw [zm he,e1,e2];rfl
theorem one_none {nm:Tx}:∀ (ls:List Bx) (o:wN),(∀ b∈ls,b.1≠nm)->ls.foldl (tA nm) o=o
 | [],_,_=>rfl
 | a::t,o,h=>by
  rw [List.foldl_cons,show tA nm o a=o from if_neg (h a (List.mem_cons_self ..))];exact one_none t o λb hb=>h b (List.mem_cons_of_mem _ hb)
theorem one_at {ls:List Bx} (hr:ls.Pairwise (λa b=>a.1<b.1)) {lo:Nat} (h:lo<ls.length) {nm:Tx} (he:(ls.getD lo yE).1=nm) (o:wN):ls.foldl (tA nm) o=z8 (ls.getD lo yE):=by
 obtain ⟨h1,h2⟩:=nm_lt hr h;rw [he] at h1 h2
 conv=>lhs;rw [split_at h,List.foldl_append,List.foldl_cons]
 have k:∀ o',tA nm o' (ls.getD lo yE)=z8 (ls.getD lo yE):=λ_=>if_pos he
 rw [k,one_none (ls.drop (lo+1)) _ λb hb e=>absurd (e ▸ h2 b hb) (List.lt_irrefl _)]
theorem set_split {ls:List Bx} {lo:Nat} (h:lo<ls.length) (b:Bx):ls.set lo b=ls.take lo++[b]++ls.drop (lo+1):=by
 rw [List.set_eq_take_append_cons_drop,if_pos h];simp
theorem lay_set {ls:List Bx} (hr:ls.Pairwise (λa b=>a.1<b.1)) {lo:Nat} (h:lo<ls.length) (b:Bx) (he:b.1=(ls.getD lo yE).1):lay1 b (ls.take lo++ls.drop (lo+1))=ls.set lo b:=by
 obtain ⟨h1,h2⟩:=nm_lt hr h;refine rise_eq ?_ (lay1_rise _ _ (hr.sublist (del_sub ls lo)) λx hx e=>?_) (set_rise hr he h)
 ·rw [set_split h];refine (uB _ _).trans ?_;rw [lAs];exact List.perm_middle.symm
 ·rw [he] at e;rcases List.mem_append.1 hx with hx | hx
  ·exact absurd (e ▸ h1 x hx) (List.lt_irrefl _)
  ·exact absurd (e ▸ h2 x hx) (List.lt_irrefl _)
theorem lay_ins {ls:List Bx} (hr:ls.Pairwise (λa b=>a.1<b.1)) {lo:Nat} {x:Bx} (h1:∀ k,k<lo->(ls.getD k yE).1<x.1) (h2:∀ k,lo<=k->k<ls.length->x.1<(ls.getD k yE).1) (hn:∀ b∈ls,b.1≠x.1) :
  lay1 x ls=ls.take lo++[x]++ls.drop lo:=by
 refine rise_eq ?_ (lay1_rise _ _ hr hn) (ins_rise hr h1 h2);refine (uB _ _).trans ?_;rw [lAs]
 have:=(List.perm_middle (a:=x) (l₁:=ls.take lo) (l₂:=ls.drop lo)).symm
 rw [List.take_append_drop] at this;exact this
structure Both (m:Mp) (ly:List Ur) (d:Dd):Prop where
 ex:∃ n e m' n' ly',F48 ((true,d,()),(((),()),m,()))=some ((n,e,()),(((),()),m',()))/\F43 ((true,d,()),((ly,()),()))=some ((n',e,()),((ly',()),()))/\(e=0->n'=n)/\RelS m' ly'/\(e≠0->m'=m/\ly'=ly)
abbrev Small3 (d:Dd):Prop:=d.2.1.length<=1050000/\d.2.2.1.length<=1050000/\d.2.2.2.1.length<=1050000
theorem kept_both {m:Mp} {ly:List Ur} (R:RelS m ly) {nm:Tx} {lo:Nat} (P:Place ly nm lo true) (r:ww×Int×Int×Unit) (h:r.2.2.1=0->Fine r.1/\r.1.1=nm) :
  RelS (kept m nm r).2 (if r.2.2.1=0 then ly.take lo++[(r.1.1,(r.1.2.1,(r.1.2.2.1,())))]++ly.drop (lo+1) else ly)/\(r.2.2.1≠0->(kept m nm r).2=m):=by
 unfold kept;simp only;by_cases h0:r.2.2.1=0
 ·rw [if_pos h0,if_pos h0];obtain ⟨h1,h2⟩:=h h0;subst h2;exact ⟨R.swap P h1,λh=>absurd h0 h⟩
 ·rw [if_neg h0,if_neg h0];exact ⟨R,λ_=>rfl⟩
theorem Both.of {m:Mp} {ly:List Ur} (R:RelS m ly) {d:Dd} {lo:Nat} (P:Place ly d.2.1 lo true) {r:ww×Int×Int×Unit} (h:r.2.2.1=0->Fine r.1/\r.1.1=d.2.1)
  (h1:F48 ((true,d,()),(((),()),m,()))=some ((kept m d.2.1 r).1,(((),()),(kept m d.2.1 r).2,())))
  (h2:F43 ((true,d,()),((ly,()),()))=some ((if r.2.2.1=0 then (r.2.1,0,()) else (0,r.2.2.1,())),(((if r.2.2.1=0 then ly.take lo++[(r.1.1,(r.1.2.1,(r.1.2.2.1,())))]++ly.drop (lo+1) else ly),()),()))):Both m ly d:=by
 obtain ⟨k1,k2⟩:=kept_both R P r h;by_cases h0:r.2.2.1=0
 ·rw [if_pos h0] at h2 k1;rw [if_pos h0] at h2;exact ⟨r.2.1,0,_,_,_,by rw [h1];unfold kept;simp only [h0],h2,λ_=>rfl,k1,λh=>absurd rfl h⟩
 ·rw [if_neg h0] at h2 k1;rw [if_neg h0] at h2;exact ⟨r.2.1,r.2.2.1,_,_,_,by rw [h1];unfold kept;rfl,h2,λh=>absurd h h0,k1,λ_=>⟨k2 h0,rfl⟩⟩
theorem deed_both {m:Mp} {ly:List Ur} (R:RelS m ly) (d:Dd) (hs:Small3 d):Both m ly d:=by
 obtain ⟨s1,s2,s3⟩:=hs;have hml:(1050000:Nat)<=maxLen:=by decide
 have e60:=F60_F73 d (by omega) (by omega) (by omega);obtain ⟨e0,hc,hC⟩:=F73_ex d (by omega);rw [hc] at e60;have hf:=R.few;by_cases he0:e0=0
 rotate_left
 ·refine ⟨0,e0,m,0,ly,F48_bad m d e0 hc he0,?_,λ_=>rfl,R,λ_=>⟨rfl,rfl⟩⟩;obtain ⟨dd,du,db,dt,uid,how,fl,ds,de,by',⟨⟩⟩:=d;simp only [F43,e60,zE,yv he0,xf,zI]
 subst he0;obtain ⟨C,hE⟩:=hC rfl
 have hrange:1<=d.1/\d.1<=9:=by
  by_cases h:1<=d.1/\d.1<=9
  ·exact h
  ·exfalso;obtain ⟨dd,du,db,dt,uid,how,fl,ds,de,by',⟨⟩⟩:=d
   have c:(decide (dd<1)||decide (9<dd))=true:=by
    rw [Bool.or_eq_true,xX,xX];simp only at h;omega
   simp only [F60,c,zI,y5,Prod.mk.injEq] at e60;omega
 by_cases h1:d.1=1
 ·obtain ⟨ly',e61,R',hne⟩:=F61_both R (new_fine C.user);refine ⟨1,_,_,1,ly',F48_open m d hc h1,?_,λ_=>rfl,R',hne⟩;obtain ⟨dd,du,db,dt,uid,how,fl,ds,de,by',⟨⟩⟩:=d;simp only at h1 e61 ⊢;subst h1;unfold tR inbx at e61;simp only [F43,e60,zE,zd,yM,zK,zI,e61];rfl
 by_cases h8:d.1=8
 ·obtain ⟨u,h75,_,hF⟩:=hE h8;obtain ⟨ly',e61,R',hne⟩:=F61_both R hF;refine ⟨0,_,_,0,ly',F48_enter m d u hc h8 h75,?_,λ_=>rfl,R',hne⟩;obtain ⟨dd,du,db,dt,uid,how,fl,ds,de,by',⟨⟩⟩:=d;have e62:=F62_took by';have e75:=F75_took by';simp only at h75 h8;rw [h75] at e75;subst h8;simp only [y5,Prod.mk.injEq,and_true] at e75;obtain ⟨q1,q2⟩:=e75;rw [<- q1] at e62;obtain ⟨un,uv,ls,⟨⟩⟩:=u;simp only at e62;simp only [F43,e60,zE,zd,yM,zK,zI,show decide ((8:Int)=1)=false from rfl,e62,e61]
 obtain ⟨lo,there,P⟩:=R.place d.2.1;have hg:=P.get R;have f41:=P.f41
 cases there with
 | false =>
  rw [if_neg (by simp)] at hg;refine ⟨0,9,m,0,ly,F48_gone m d hc h1 h8 hg,?_,λ_=>rfl,R,λ_=>⟨rfl,rfl⟩⟩;obtain ⟨dd,du,db,dt,uid,how,fl,ds,de,by',⟨⟩⟩:=d;simp only at h1 h8 f41;simp only [F43,e60,zE,zd,yM,zK,zI,yv h1,yv h8,f41,xf]
 | true =>
 rw [if_pos rfl] at hg;obtain ⟨p1,p2,p3⟩:=P.yes rfl;have w1:zh ((lo:Int)+1)=((lo+1:Nat):Int):=by rw [zV (by omega) (by omega)];rfl
 by_cases h9:d.1=9
 ·refine ⟨0,0,_,0,_,F48_leave m d _ hc h9 hg,?_,λ_=>rfl,R.del P,λh=>absurd rfl h⟩;have e63:=F63_eq ly [] lo (lo+1) (by omega) (by simp) P.le (by omega);rw [List.append_nil] at e63;obtain ⟨dd,du,db,dt,uid,how,fl,ds,de,by',⟨⟩⟩:=d;simp only at h1 h8 h9 f41;subst h9;simp only [F43,e60,zE,zd,yM,zK,zI,show decide ((9:Int)=1)=false from rfl,show decide ((9:Int)=8)=false from rfl,f41,w1,e63]
 obtain ⟨u,hu⟩:∃ u,ly.getD lo nou=u:=⟨_,rfl⟩;rw [hu] at hg p2;obtain ⟨Fu,hk⟩:=R.fine.fine d.2.1 u hg;have Gu:Good (usr u):=Fu.good;have g1:=Gu.few;have g2:=Gu.rise;have d0:decide ((lo:Int)<((ly.length:Nat):Int))=true:=zm (by omega);have d1:decide ((0:Int)<=(lo:Int))=true:=zm (by omega);have e40:=F40_eq (usr u) d.2.2.1 (by omega);have e63:=λx:Ur=>F63_eq ly [x] lo (lo+1) (by omega) (by simp) P.le (by omega)
 have hex:∃ x,x=u:=⟨u,rfl⟩;obtain ⟨un,uv,ls,⟨⟩⟩:=u;have hu':ly.getD lo (([]:Tx),((0:Int),(([]:(List Bx)),())))=(un,(uv,(ls,()))):=hu;unfold usr at e40 Gu g1 g2;simp only at e40 g1 g2;by_cases h2:d.1=2
 ·obtain ⟨lb,e1,e2,e3,e4,e5,e6⟩:=F76_eq (un,uv,ls,()) d (by simp only;omega) g2;simp only at e2 e3 e4 e5 e6;refine Both.of R P (r:=wO (un,uv,ls,()) lb d) (λhe=>?_) (F48_shape m d _ lb hc (.inl h2) hg e1) ?_
  ·obtain ⟨q1,q2⟩:=make_fine Fu d h2 e2 e3 e4 e6 (C.box h2) he;exact ⟨q1,q2.trans hk⟩
  ·have hrB:=C.box h2;by_cases hE0:(wO (un,uv,ls,()) lb d).2.2.1=0
   ·obtain ⟨-,hh,hsh⟩:=make_good Gu d h2 e2 e3 e4 e6 hE0;simp only at hh hsh;have hv:=Gu.valid
    have hno:¬ (6<=ls.length\/4294967295<=uv):=by
     unfold wO at hE0;rw [if_pos h2,if_neg (by simp only;rw [hh];simp)] at hE0;simp only at hE0 hv;by_cases h':ls.length=6\/uv=4294967295
     ·rw [if_pos h'] at hE0;simp at hE0
     ·omega
    rw [hsh];have e64:=F64_eq ls (d.2.2.1,(uv+1,(1,([],())))) (by omega)
    rw [lay_ins g2 e3 (λk h1 h2=>wg (e4 k h1 h2) (e6 hh k h2)) (λb hb=>by
     obtain ⟨k,hk,rfl⟩:=List.getElem_of_mem hb
     have:=e6 hh k hk
     rwa [vd hk] at this)] at e64
    rw [hh,but_none hh] at e40;obtain ⟨dd,du,db,dt,uid,how,fl,ds,de,by',⟨⟩⟩:=d;simp only at h1 h2 h8 f41 e40 hv e63 e64;subst h2;have hw:zh (uv+1)=uv+1:=zV (by omega) (by omega)
    have c2:(decide ((6:Int)<=((ls.length:Nat):Int))||decide ((4294967295:Int)<=uv))=false:=by
     rw [Bool.or_eq_false_iff,decide_eq_false_iff_not,decide_eq_false_iff_not];omega
    unfold z8 at e64;simp only at e64;simp only [F43,e60,zE,zd,yM,zK,zI,show decide ((2:Int)=1)=false from rfl,show decide ((2:Int)=8)=false from rfl,show decide ((2:Int)=9)=false from rfl,f41,d0,d1,yW,yF,hu',e40,c2,hw,e64,w1,e63,↓reduceIte]
   ·unfold wO at hE0 ⊢;rw [if_pos h2] at hE0 ⊢;simp only at hE0 ⊢
    cases hh:yX ls d.2.2.1 with
    | true =>
     rw [hh] at e40;simp only [↓reduceIte];obtain ⟨dd,du,db,dt,uid,how,fl,ds,de,by',⟨⟩⟩:=d;simp only at h1 h2 h8 f41 e40;subst h2;simp only [F43,e60,zE,zd,yM,zK,zI,show decide ((2:Int)=1)=false from rfl,show decide ((2:Int)=8)=false from rfl,show decide ((2:Int)=9)=false from rfl,f41,d0,d1,yW,yF,hu',e40];rfl
    | false =>
     rw [hh] at e40 hE0;simp only [Bool.false_eq_true,↓reduceIte] at hE0 ⊢;by_cases hfull:ls.length=6\/uv=4294967295
     ·rw [if_pos hfull]
      have c2:(decide ((6:Int)<=((ls.length:Nat):Int))||decide ((4294967295:Int)<=uv))=true:=by
       rw [Bool.or_eq_true,xX,xX];omega
      obtain ⟨dd,du,db,dt,uid,how,fl,ds,de,by',⟨⟩⟩:=d;simp only at h1 h2 h8 f41 e40;subst h2;simp only [F43,e60,zE,zd,yM,zK,zI,show decide ((2:Int)=1)=false from rfl,show decide ((2:Int)=8)=false from rfl,show decide ((2:Int)=9)=false from rfl,f41,d0,d1,yW,yF,hu',e40,c2];rfl
     ·rw [if_neg hfull] at hE0;exact absurd rfl hE0
 by_cases h7:d.1=7
 ·cases hh:yX ls d.2.2.1 with
  | false =>
   have e77:F77 (((un,uv,ls,()),d,()),())=some (((un,uv,ls,()),0,9,()),()):=by
    obtain ⟨lb,e39,_,_,_,_,_⟩:=F39_eq (un,uv,ls,()) d.2.2.1 (by simp only;omega) g2;simp only at e39;rw [hh] at e39;obtain ⟨dd,du,db,dt,uid,how,fl,ds,de,by',⟨⟩⟩:=d;simp only at e39;simp only [F77,e39,zE,xf,zI]
   refine Both.of R P (r:=((un,uv,ls,()),0,9,())) (λhe=>absurd he (by simp)) (F48_rename m d _ _ hc h7 hg e77) ?_;rw [hh] at e40;obtain ⟨dd,du,db,dt,uid,how,fl,ds,de,by',⟨⟩⟩:=d;simp only at h1 h2 h7 h8 f41 e40;subst h7;simp only [F43,e60,zE,zd,yM,zK,zI,show decide ((7:Int)=1)=false from rfl,show decide ((7:Int)=8)=false from rfl,show decide ((7:Int)=9)=false from rfl,show decide ((7:Int)=2)=false from rfl,f41,d0,d1,yW,yF,hu',e40,xf];rfl
  | true =>
   obtain ⟨r,e77,hr,e65⟩:=ren_both Fu d s3 hh ly lo p1 (by omega) hu;refine Both.of R P (r:=r) (λhe=>?_) (F48_rename m d _ _ hc h7 hg e77) ?_
   ·obtain ⟨q1,q2⟩:=hr he;exact ⟨q1,q2.trans hk⟩
   ·rw [hh] at e40;obtain ⟨dd,du,db,dt,uid,how,fl,ds,de,by',⟨⟩⟩:=d;simp only at h1 h2 h7 h8 f41 e40;subst h7;simp only [F43,e60,zE,zd,yM,zK,zI,show decide ((7:Int)=1)=false from rfl,show decide ((7:Int)=8)=false from rfl,show decide ((7:Int)=9)=false from rfl,show decide ((7:Int)=2)=false from rfl,f41,d0,d1,yW,yF,hu',e40,e65]
 by_cases h3:d.1=3
 ·obtain ⟨lb,e1,e2,e3,e4,e5,e6⟩:=F76_eq (un,uv,ls,()) d (by simp only;omega) g2;simp only at e2 e3 e4 e5 e6;refine Both.of R P (r:=wO (un,uv,ls,()) lb d) (λhe=>?_) (F48_shape m d _ lb hc (.inr h3) hg e1) ?_
  ·obtain ⟨q1,q2⟩:=drop_fine Fu d h2 e5 he;exact ⟨q1,q2.trans hk⟩
  ·by_cases hE0:(wO (un,uv,ls,()) lb d).2.2.1=0
   ·obtain ⟨-,hsh⟩:=drop_good Gu d h2 hE0;simp only at hsh
    have hq:yX ls d.2.2.1=true/\d.2.2.1≠inbx:=by
     unfold wO at hE0;rw [if_neg h2] at hE0;simp only at hE0
     cases hh:yX ls d.2.2.1 with
     | false=>rw [hh] at hE0;simp at hE0
     | true =>
      refine ⟨rfl,λe=>?_⟩;rw [hh,e] at hE0;simp at hE0
    obtain ⟨hh,hni⟩:=hq;obtain ⟨k1,k2⟩:=e5 hh;rw [hsh];rw [hh,but_at g2 k1 k2] at e40;have hni':decide (d.2.2.1=([73,78,66,79,88]:Tx))=false:=yv hni;obtain ⟨dd,du,db,dt,uid,how,fl,ds,de,by',⟨⟩⟩:=d;simp only at h1 h2 h3 h8 f41 e40 hni' e63;subst h3;simp only [F43,e60,zE,zd,yM,zK,zI,show decide ((3:Int)=1)=false from rfl,show decide ((3:Int)=8)=false from rfl,show decide ((3:Int)=9)=false from rfl,show decide ((3:Int)=2)=false from rfl,show decide ((3:Int)=7)=false from rfl,f41,d0,d1,yW,yF,hu',e40,hni',w1,e63,↓reduceIte]
   ·unfold wO at hE0 ⊢;rw [if_neg h2] at hE0 ⊢;simp only at hE0 ⊢
    cases hh:yX ls d.2.2.1 with
    | false =>
     rw [hh] at e40;simp only [↓reduceIte];obtain ⟨dd,du,db,dt,uid,how,fl,ds,de,by',⟨⟩⟩:=d;simp only at h1 h2 h3 h8 f41 e40;subst h3;simp only [F43,e60,zE,zd,yM,zK,zI,show decide ((3:Int)=1)=false from rfl,show decide ((3:Int)=8)=false from rfl,show decide ((3:Int)=9)=false from rfl,show decide ((3:Int)=2)=false from rfl,f41,d0,d1,yW,yF,hu',e40,xf];rfl
    | true =>
     rw [hh] at e40 hE0;simp only [Bool.true_eq_false,↓reduceIte] at hE0 ⊢;by_cases hin:d.2.2.1=inbx
     ·rw [if_pos hin];have hin':decide (d.2.2.1=([73,78,66,79,88]:Tx))=true:=zm hin;obtain ⟨dd,du,db,dt,uid,how,fl,ds,de,by',⟨⟩⟩:=d;simp only at h1 h2 h3 h8 f41 e40 hin';subst h3;simp only [F43,e60,zE,zd,yM,zK,zI,show decide ((3:Int)=1)=false from rfl,show decide ((3:Int)=8)=false from rfl,show decide ((3:Int)=9)=false from rfl,show decide ((3:Int)=2)=false from rfl,show decide ((3:Int)=7)=false from rfl,f41,d0,d1,yW,yF,hu',e40,hin'];rfl
     ·rw [if_neg hin] at hE0;exact absurd rfl hE0
 rcases F78_eq (un,uv,ls,()) d (by simp only;omega) Gu.len g2 with ⟨hh,e1⟩ | ⟨lb,l1,l2,e1⟩
 ·refine Both.of R P (r:=((un,uv,ls,()),0,9,())) (λhe=>absurd he (by simp)) (F48_box m d _ _ hc h1 h2 h3 h7 h8 h9 hg e1) ?_;simp only at hh;rw [hh] at e40;obtain ⟨dd,du,db,dt,uid,how,fl,ds,de,by',⟨⟩⟩:=d;simp only at h1 h2 h3 h7 h8 h9 f41 e40;simp only [F43,e60,zE,zd,yM,zK,zI,yv h1,yv h2,yv h8,yv h9,f41,d0,d1,yW,yF,hu',e40,xf];rfl
 ·simp only at l1 l2;refine Both.of R P (r:=boxd (un,uv,ls,()) lb d) (λhe=>?_) (F48_box m d _ _ hc h1 h2 h3 h7 h8 h9 hg e1) ?_
  ·obtain ⟨q1,q2⟩:=boxd_fine Fu l1 d he;exact ⟨q1,q2.trans hk⟩
  ·have hh:yX ls d.2.2.1=true:=by
    unfold yX;exact List.any_eq_true.2 ⟨_,wo l1,zm l2⟩
   rw [hh,but_at g2 l1 l2,one_at g2 l1 l2] at e40;have Rb:Right (z8 (ls.getD lb yE)):=Gu.each _ (wo l1);have hbx:∃ q:(Int×Int×wN),q=((did (z8 (ls.getD lb yE)) d).2.2,(did (z8 (ls.getD lb yE)) d).2.1,(did (z8 (ls.getD lb yE)) d).1):=⟨_,rfl⟩;have hkept:=did_kept Rb d
   have key:∀ (B:wN) (n e:Int),did (z8 (ls.getD lb yE)) d=(B,n,e) ->
     (∀ x,F43 ((true,d,()),((ly,()),()))=x<->(cond (!(decide (e=0))) (some (((0:Int),e,()),((ly,()),()))) (Option.bind (F64 ((ls.take lb++ls.drop (lb+1),B,()),())) λr33=>Option.bind (F13 (((un,uv,r33.2.1,()),()),())) λr34 =>
      cond (!(decide (r34.1=(0:Int)))) (some (((0:Int),(8:Int),()),((ly,()),()))) (Option.bind (F63 ((true,(lo:Int),((lo+1:Nat):Int),[(un,(uv,(r33.2.1,())))],()),((ly,()),()))) λr35=>some ((n,(0:Int),()),((r35.2.2.1,()),())))))=x):=by
    intro B n e hd x;have h456:d.1=4\/d.1=5\/d.1=6:=by omega
    unfold did at hd;obtain ⟨⟨bn,bv,bx,bl,⟨⟩⟩,hgb⟩:∃ b,ls.getD lb yE=b:=⟨_,rfl⟩;rw [hgb] at hd e40;unfold z8 at hd e40;simp only at hd e40;obtain ⟨dd,du,db,dt,uid,how,fl,ds,de,by',⟨⟩⟩:=d;simp only at h1 h2 h3 h7 h8 h9 f41 e40 hd h456;rcases h456 with rfl | rfl | rfl
    ·have e66:=F66_eq (bn,bv,bx,bl,()) fl by';rw [if_pos rfl] at hd;generalize add (bn,bv,bx,bl,()) fl by'=q at e66 hd;obtain ⟨⟨qn,qv,qx,ql,⟨⟩⟩,qm,qe,⟨⟩⟩:=q
     cases hd;simp only [F43,e60,zE,zd,yM,zK,zI,show decide ((4:Int)=1)=false from rfl,show decide ((4:Int)=8)=false from rfl,show decide ((4:Int)=9)=false from rfl,show decide ((4:Int)=2)=false from rfl,show decide ((4:Int)=7)=false from rfl,show decide ((4:Int)=3)=false from rfl,f41,d0,d1,yW,yF,hu',e40,e66,w1]
    ·have e67:=F67_eq (bn,bv,bx,bl,()) uid how fl;rw [if_neg (by decide),if_pos rfl] at hd;generalize flag (bn,bv,bx,bl,()) uid how fl=q at e67 hd;obtain ⟨⟨qn,qv,qx,ql,⟨⟩⟩,qe,⟨⟩⟩:=q
     cases hd;simp only [F43,e60,zE,zd,yM,zK,zI,show decide ((5:Int)=1)=false from rfl,show decide ((5:Int)=8)=false from rfl,show decide ((5:Int)=9)=false from rfl,show decide ((5:Int)=2)=false from rfl,show decide ((5:Int)=7)=false from rfl,show decide ((5:Int)=3)=false from rfl,show decide ((5:Int)=4)=false from rfl,f41,d0,d1,yW,yF,hu',e40,e67,w1]
    ·have e68:=F68_eq (bn,bv,bx,bl,()) uid;rw [if_neg (by decide),if_neg (by decide),if_pos rfl] at hd;generalize cut (bn,bv,bx,bl,()) uid=q at e68 hd;obtain ⟨⟨qn,qv,qx,ql,⟨⟩⟩,qe,⟨⟩⟩:=q
     cases hd;simp only [F43,e60,zE,zd,yM,zK,zI,show decide ((6:Int)=1)=false from rfl,show decide ((6:Int)=8)=false from rfl,show decide ((6:Int)=9)=false from rfl,show decide ((6:Int)=2)=false from rfl,show decide ((6:Int)=7)=false from rfl,show decide ((6:Int)=3)=false from rfl,show decide ((6:Int)=4)=false from rfl,show decide ((6:Int)=5)=false from rfl,f41,d0,d1,yW,yF,hu',e40,e68,w1]
   obtain ⟨⟨B,n,e⟩,hd⟩:∃ q,did (z8 (ls.getD lb yE)) d=q:=⟨_,rfl⟩;rw [key B n e hd];rw [hd] at hkept;unfold boxd;simp only;rw [hd];simp only at hkept ⊢;by_cases he:e=0
   ·subst he;have K:=hkept rfl;have hBn:(w7 B).1=(ls.getD lb yE).1:=K.name
    have hB:B=z8 (w7 B):=by
     obtain ⟨qn,qv,qx,ql,⟨⟩⟩:=B;rfl
    have e64:=F64_eq (ls.take lb++ls.drop (lb+1)) (w7 B) (by rw [xe,xG,sG];omega);rw [<- hB,lay_set g2 l1 (w7 B) hBn] at e64
    have hnames:∀ b∈ls.set lb (w7 B),b.1.length<=24:=λb hb=>by
     rcases List.mem_or_eq_of_mem_set hb with h | rfl
     ·exact um (Fu.names b h)
     ·rw [hBn];exact um (Fu.names _ (wo l1))
    simp only [ne_eq,not_true_eq_false,↓reduceIte,zd,yM,zK,e64,zE];by_cases hw:wth (ls.set lb (w7 B))=true
    ·have hb0:boxd (un,uv,ls,()) lb d=((un,uv,ls.set lb (w7 B),()),n,0,()):=by
      unfold boxd;simp only;rw [hd];simp [hw]
     obtain ⟨q1,q2⟩:=boxd_fine Fu l1 d (by rw [show usr (un,(uv,(ls,())))=(un,uv,ls,()) from rfl,hb0]);rw [show usr (un,(uv,(ls,())))=(un,uv,ls,()) from rfl,hb0] at q1;have e13:=F13_eq q1;rw [if_pos hw];simp only [e13,zE,zd,yM,zK,e63,↓reduceIte]
    ·rw [if_neg hw];have hul:un.length<=24:=user_le Fu.user;have e13:=F13_F44 (un,uv,ls.set lb (w7 B),()) (by simp only;omega) λb hb=>Nat.le_trans (hnames b hb) (by decide)
     obtain ⟨e',e44,hF⟩:=F44_ex (un,uv,ls.set lb (w7 B),()) (by simp only;omega);rw [e44] at e13;have hne:e'≠0:=λh=>hw (hF h).room
     simp only [e13,zE,yv hne,xf,zI];rfl
   ·rw [if_pos he];rw [yv he,if_neg he,if_neg he];rfl
abbrev Sa27:Type:=(Bool×Unit×(List Dd)×Int×Int×Unit)×((Unit×Unit)×Mp×(List Int)×Unit)
abbrev Sa24:Type:=(Bool×(List Dd)×(List Ur)×Unit×Int×Unit)×(((List Ur)×Unit)×(List Int)×Unit)
abbrev R24:Type:=((Bool×Unit×Unit)×(((List Ur)×Unit)×(List Int)×Unit))⊕((Bool×Unit×Int×Int×Unit)×(((List Ur)×Unit)×(List Int)×Unit))
def Ran (was:List Ur) (n:Nat) (r:R27) (s:R24):Prop :=
 (∃ m' ly' o,r=.inl ((true,(),()),(((),()),m',o,()))/\s=.inl ((true,(),()),((ly',()),o,()))/\RelS m' ly'/\o.length=n) \/
 (∃ (i:Nat) (e:Int) (m':Mp),e≠0/\i<n/\r=.inr ((true,(),(i:Int),e,()),(((),()),m',[],()))/\s=.inr ((true,(),(i:Int),e,()),((was,()),[],())))
theorem L27_L24 {m:Mp} {ly:List Ur} (R:RelS m ly) (l:List Dd) (hs:∀ d∈l,Small3 d) (hl:l.length<=12) :
  ∃ r s,L27_0 ((true,(),l,((l.length:Nat):Int),(0:Int),()),(((),()),m,([]:List Int),()))=some r/\L24_0 ((true,l,ly,(),(0:Int),()),((ly,()),([]:List Int),()))=some s/\Ran ly l.length r s:=by
 obtain ⟨r0,h0,-⟩:=L27_ex R.fine l (λd hd=>⟨Nat.le_trans (hs d hd).1 (by decide),Nat.le_trans (hs d hd).2.2 (by decide)⟩) hl
 have hstep:∀ (p:Sa27) (q:Sa24),(∃ (i:Nat) (m':Mp) (ly':List Ur) (o:List Int),i<=l.length/\o.length=i/\RelS m' ly'/\p=((true,(),l,((l.length:Nat):Int),(i:Int),()),(((),()),m',o,()))/\q=((true,l,ly,(),(i:Int),()),((ly',()),o,()))) ->
   (wZ p=none/\B24_0 q=none)\/(∃ p' q',wZ p=some (.inl p')/\B24_0 q=some (.inl q')/\(∃ (i:Nat) (m':Mp) (ly':List Ur) (o:List Int),i<=l.length/\o.length=i/\RelS m' ly'/\p'=((true,(),l,((l.length:Nat):Int),(i:Int),()),(((),()),m',o,()))/\q'=((true,l,ly,(),(i:Int),()),((ly',()),o,()))))\/(∃ r s,wZ p=some (.inr r)/\B24_0 q=some (.inr s)/\Ran ly l.length r s):=by
  rintro p q ⟨i,m',ly',o,hi,ho,R',rfl,rfl⟩;right;rcases Nat.lt_or_ge i l.length with h | h
  ·have d0:decide ((i:Int)<((l.length:Nat):Int))=true:=zm (by omega);have d1:decide ((0:Int)<=(i:Int))=true:=zm (by omega);have w1:zh ((i:Int)+1)=((i+1:Nat):Int):=by rw [zV (by omega) (by omega)];rfl
   obtain ⟨d,hd⟩:∃ d,l[i]=d:=⟨_,rfl⟩;have hg:∀ z,l.getD i z=d:=λz=>by rw [wQ,List.getElem?_eq_getElem h,hd];rfl
   obtain ⟨n,e,m2,n',ly2,h48,h43,hn,R2,hne⟩:=(deed_both R' d (hs d (by rw [<- hd];exact List.getElem_mem h))).ex;obtain ⟨dd,du,db,dt,uid,how,fl,ds,de,by',⟨⟩⟩:=d;by_cases he:e=0
   ·subst he;obtain rfl:=hn rfl;left;have hb:zH (o.length+[n'].length) 8=true:=zl (by simp only [lSg];omega);refine ⟨((true,(),l,((l.length:Nat):Int),((i+1:Nat):Int),()),(((),()),m2,o++[n'],())),((true,l,ly,(),((i+1:Nat):Int),()),((ly2,()),o++[n'],())),?_,?_,i+1,m2,ly2,o++[n'],h,by simp [ho],R2,rfl,rfl⟩
    ·simp only [wZ,d0,d1,yW,zI,zE,yF,hg,h48,zd,yM,zK,hb,w1]
    ·simp only [B24_0,d0,d1,yW,zI,zE,yF,hg,h43,zd,yM,zK,hb,w1]
   ·right;refine ⟨.inr ((true,(),(i:Int),e,()),(((),()),m2,[],())),.inr ((true,(),(i:Int),e,()),((ly,()),[],())),?_,?_,.inr ⟨i,e,m2,he,h,rfl,rfl⟩⟩
    ·simp only [wZ,d0,d1,yW,zI,zE,yF,hg,h48,yv he,xf]
    ·simp only [B24_0,d0,d1,yW,zI,zE,yF,hg,h43,yv he,xf]
  ·have hi':i=l.length:=by omega
   subst hi';right;refine ⟨.inl ((true,(),()),(((),()),m',o,())),.inl ((true,(),()),((ly',()),o,())),?_,?_,.inl ⟨m',ly',o,rfl,rfl,R',ho⟩⟩
   ·simp only [wZ,Int.lt_irrefl,xA,zK]
   ·simp only [B24_0,Int.lt_irrefl,xA,zK]
 rcases loop_sim (f:=wZ) (g:=B24_0) _ _ hstep ((true,(),l,((l.length:Nat):Int),(0:Int),()),(((),()),m,([]:List Int),())) ((true,l,ly,(),(0:Int),()),((ly,()),([]:List Int),())) ⟨0,m,ly,[],Nat.zero_le _,rfl,R,rfl,rfl⟩ with ⟨h1,-⟩ | h
 ·have:L27_0 ((true,(),l,((l.length:Nat):Int),(0:Int),()),(((),()),m,([]:List Int),()))=none:=h1;rw [this] at h0
  cases h0
 ·exact h
structure Done (m:Mp) (ly:List Ur) (l:List Dd) (i e:Int) (m':Mp) (ly':List Ur) (o:List Int):Prop where
 tried:F25 ((true,l,()),(((),()),m,()))=some (((),i,e,()),(((),()),m,o,()))
 did:F10 ((true,l,()),(((),()),m,()))=some (((),i,e,()),(((),()),m',o,()))
 ref:F24 ((true,l,()),((ly,()),()))=some (((),i,e,()),((ly',()),o,()))
 rel:RelS m' ly'
 bad:e≠0->m'=m/\ly'=ly/\o=[]/\i<=((l.length:Nat):Int)
 good:e=0->o.length=l.length
theorem do_both {m:Mp} {ly:List Ur} (R:RelS m ly) (l:List Dd) (hs:∀ d∈l,Small3 d):∃ i e m' ly' o,Done m ly l i e m' ly' o:=by
 have key:∃ (i e:Int) (m1:Mp) (ly':List Ur) (o:List Int),F27 ((true,l,()),(((),()),m,()))=some (((),i,e,()),(((),()),m1,o,()))/\F24 ((true,l,()),((ly,()),()))=some (((),i,e,()),((ly',()),o,())) /\
   (e=0->RelS m1 ly'/\o.length=l.length)/\(e≠0->ly'=ly/\o=[]/\i<=((l.length:Nat):Int)):=by
  by_cases h0:l.length=0
  ·have c0:decide (((l.length:Nat):Int)=0)=true:=zm (by omega);exact ⟨0,2,m,ly,[],by simp only [F27,yM,zK,c0,zI],by simp only [F24,yM,zK,c0,zI],nofun,λ_=>⟨rfl,rfl,by omega⟩⟩
  ·have c0:decide (((l.length:Nat):Int)=0)=false:=yv (by omega);by_cases h1:12<l.length
   ·have c1:decide ((12:Int)<((l.length:Nat):Int))=true:=zm (by omega);exact ⟨0,6,m,ly,[],by simp only [F27,yM,zK,c0,c1,zI],by simp only [F24,yM,zK,c0,c1,zI],nofun,λ_=>⟨rfl,rfl,by omega⟩⟩
   ·have c1:decide ((12:Int)<((l.length:Nat):Int))=false:=yv (by omega);obtain ⟨r,s,e1,e2,hr⟩:=L27_L24 R l hs (by omega);rcases hr with ⟨m',ly',o,rfl,rfl,R',ho⟩ | ⟨i,e,m',he,hi,rfl,rfl⟩
    ·exact ⟨0,0,m',ly',o,by simp only [F27,yM,zK,c0,c1,e1,zE],by simp only [F24,yM,zK,zI,c0,c1,e2,zE],λ_=>⟨R',ho⟩,λh=>absurd rfl h⟩
    ·exact ⟨i,e,m',ly,[],by simp only [F27,yM,zK,c0,c1,e1,zE],by simp only [F24,yM,zK,zI,c0,c1,e2,zE],λh=>absurd h he,λ_=>⟨rfl,rfl,by omega⟩⟩
 obtain ⟨i,e,m1,ly',o,e27,e24,hg,hb⟩:=key
 have e25:F25 ((true,l,()),(((),()),m,()))=some (((),i,e,()),(((),()),m,o,())):=by
  simp only [F25,F22,yM,zK,zI,zE,e27]
 by_cases he:e=0
 ·subst he;obtain ⟨R',ho⟩:=hg rfl;exact ⟨i,0,m1,ly',o,e25,by simp only [F10,F22,yM,zK,zI,zE,e27,zd],e24,R',λh=>absurd rfl h,λ_=>ho⟩
 ·obtain ⟨rfl,rfl,hi⟩:=hb he;exact ⟨i,e,m,ly',[],e25,by simp only [F10,F22,yM,zK,zI,zE,e27,yv he],e24,R,λ_=>⟨rfl,rfl,rfl,hi⟩,λh=>absurd h he⟩
theorem F36_self (a:List Int) (hl:a.length<=1000):F36 ((a,a,()),())=some (true,()):=by
 have hF:=zR
 have hL:L36_0 ((a,a,(0:Int),()),())=some (.inl ((),())):=by
  unfold L36_0;refine (yo (f:=B36_0) (λ(_:Unit) i=>((a,a,(i:Int),()),())) a (λ_ _=>.inl ()) (λ_=>(.inl ((),()):(Unit×Unit)⊕((Unit×Unit)×Unit))) (λb i x hi hx=>?_) (λb=>?_) (by omega) (b:=())).trans ?_
  ·have d0:decide ((i:Int)<((a.length:Nat):Int))=true:=zm (by omega);have d1:decide ((0:Int)<=(i:Int))=true:=zm (by omega);have w1:zh ((i:Int)+1)=((i+1:Nat):Int):=by rw [zV (by omega) (by omega)];rfl
   simp only [B36_0,d0,d1,yW,zI,zd,yM,zK,w1]
  ·simp only [B36_0,Int.lt_irrefl,xA,zK]
  ·rw [wX]
 simp only [F36,zd,yM,zK,hL,zE]
theorem F38_eq (l:List Dd) (hl:l.length<=1050000) (hb:∀ d∈l,d.2.2.2.2.2.2.2.2.2.1.length<=1050000):F38 ((l,()),())=some (l,()):=by
 have hF:=zR
 have hL:L38_0 ((l,(),(0:Int),()),(([]:List Dd),()))=some (((),()),(l,())):=by
  unfold L38_0
  refine (yC (f:=B38_0) (λ(o:List Dd) i=>((l,(),(i:Int),()),(o,()))) l (λa o=>.inl (o++[id a])) (λo=>(((),()),(o,()))) (λo i=>o.length=i)
   (λo i a hI hi ha=>?_) (λo _=>?_) (by omega) (b:=[]) rfl).trans ?_
  ·refine .inl ⟨_,rfl,by simp [hI],?_⟩
   have hm:a∈l:=by
    have:=ha (0,[],[],[],0,0,0,0,0,[],())
    rw [wQ,List.getElem?_eq_getElem hi] at this;rw [<- this];exact List.getElem_mem hi
   have hba:=hb a hm;have d0:decide ((i:Int)<((l.length:Nat):Int))=true:=zm (by omega);have d1:decide ((0:Int)<=(i:Int))=true:=zm (by omega);have w1:zh ((i:Int)+1)=((i+1:Nat):Int):=by rw [zV (by omega) (by omega)];rfl
   have b1:zH (0+a.2.2.2.2.2.2.2.2.2.1.length) 1=true:=zl (by omega);have b2:∀ x:Dd,zH (o.length+[x].length) 120=true:=λx=>zl (by simp only [lSg];omega)
   have ha':=ha (0,[],[],[],0,0,0,0,0,[],());obtain ⟨dd,du,db,dt,uid,how,fl,ds,de,by',⟨⟩⟩:=a;simp only at b1;simp only [B38_0,d0,d1,yW,zI,zE,yF,ha',b1,b2,w1,List.nil_append,id]
  ·simp only [B38_0,Int.lt_irrefl,xA,zK]
  ·rw [sN id];simp
 simp only [F38,hL,zE]
def uz:Dd:=(1,[117],[],[],0,0,0,0,0,[],())
def dPut:Dd:=(4,[117],[73,78,66,79,88],[],0,0,0,0,0,[120],())
theorem chk_open:F73 ((uz,()),())=some (0,()):=by kernel_rfl
theorem chk_put:F73 ((dPut,()),())=some (0,()):=by kernel_rfl
def m1:Mp:=[([117],([117],(1,([(inbx,(1,(1,([],()))))],()))))]
def m2:Mp:=[([117],([117],(1,([(inbx,(1,(2,([(1,(0,([120],())))],()))))],()))))]
theorem one_open:F48 ((true,uz,()),(((),()),[],()))=some ((1,0,()),(((),()),m1,())) :=
 (F48_open [] uz chk_open rfl).trans (by rfl)
theorem one_put:F48 ((true,dPut,()),(((),()),m1,()))=some ((1,0,()),(((),()),m2,())):=by
 have hR:∃ R,F78 ((tR [117],dPut,()),())=some (R,())/\R=(([117],1,[(inbx,(1,(2,([(1,(0,([120],())))],()))))],()),1,0,()):=by
  have G:=new_good [117];rcases F78_eq (tR [117]) dPut (Nat.le_trans G.few (by decide)) G.len G.rise with ⟨h,_⟩ | ⟨lo,h1,_,h2⟩
  ·exact absurd h (by decide)
  ·have:lo=0:=by simpa [tR] using h1
   subst this;exact ⟨_,h2,by rfl⟩
 obtain ⟨R,h1,h2⟩:=hR;subst h2;exact (F48_box m1 dPut ([117],(1,([(inbx,(1,(1,([],()))))],()))) _ chk_put (by decide) (by decide) (by decide) (by decide) (by decide) (by decide) rfl h1).trans (by rfl)
theorem run_two:L27_0 ((true,(),[uz,dPut],(2:Int),(0:Int),()),(((),()),([]:Mp),([]:List Int),()))=some (.inl ((true,(),()),(((),()),m2,[1,1],())):R9):=by
 have o1:=one_open;have o2:=one_put;unfold uz at o1;unfold dPut at o2
 have s0:wZ ((true,(),[uz,dPut],(2:Int),(0:Int),()),(((),()),([]:Mp),([]:List Int),()))=some (.inl ((true,(),[uz,dPut],(2:Int),(1:Int),()),(((),()),m1,([1]:List Int),()))):=by
  have hw:zh (0+1)=1:=by rfl
  simp only [wZ,uz,dPut,List.length_cons,List.length_nil,show decide ((0:Int)<2)=true from rfl,show decide ((0:Int)<=0)=true from rfl,show decide ((0:Int)<((0+1+1:Nat):Int))=true from rfl,Bool.and_true,zI,zE,Int.toNat_zero,List.getD_cons_zero,o1,zd,yM,zK,List.nil_append,hw];rfl
 have s1:wZ ((true,(),[uz,dPut],(2:Int),(1:Int),()),(((),()),m1,([1]:List Int),()))=some (.inl ((true,(),[uz,dPut],(2:Int),(2:Int),()),(((),()),m2,([1,1]:List Int),()))):=by
  have hw:zh (1+1)=2:=by rfl
  simp only [wZ,uz,dPut,List.length_cons,List.length_nil,show decide ((1:Int)<2)=true from rfl,show decide ((0:Int)<=1)=true from rfl,show decide ((1:Int)<((0+1+1:Nat):Int))=true from rfl,Bool.and_true,zI,zE,show (1:Int).toNat=1 from rfl,List.getD_cons_succ,List.getD_cons_zero,o2,zd,yM,zK,hw];rfl
 have s2:wZ ((true,(),[uz,dPut],(2:Int),(2:Int),()),(((),()),m2,([1,1]:List Int),()))=some (.inr (.inl ((true,(),()),(((),()),m2,[1,1],())):R9)):=by
  simp only [wZ,show decide ((2:Int)<2)=false from rfl,zK]
 show iter wZ xk _=_;rw [show xk=9223372036854775805+1+1+1 from rfl];simp only [iter,s0,s1,s2]
theorem two:F10 ((true,[uz,dPut],()),(((),()),([]:Mp),()))=some (((),0,0,()),(((),()),m2,[1,1],())):=by
 have h1:decide (((2:Nat):Int)=0)=false:=rfl;have h2:decide ((12:Int)<((2:Nat):Int))=false:=rfl;have h:=run_two;simp only [F10,F22,F27,yM,zK,zI,zE,List.length_cons,List.length_nil,show ((0+1+1:Nat):Int)=2 from rfl,show decide ((2:Int)=0)=false from rfl,show decide ((12:Int)<2)=false from rfl,h,zd]
theorem box_two:F16 ((some (m2,()),[117],[73,78,66,79,88],()),())=some (((inbx,1,2,[(1,(0,([120],())))],()),(0:Int),()),()):=by
  refine (F16_eq m2 [117] [73,78,66,79,88] λu hu=>?_).trans (by rfl)
  have:u=([117],(1,([(inbx,(1,(2,([(1,(0,([120],())))],()))))],()))):=by
    have h:zO .str m2 [117]=some ([117],(1,([(inbx,(1,(2,([(1,(0,([120],())))],()))))],()))):=rfl;rw [h] at hu;exact (Option.some.inj hu).symm
  subst this
  exact {
    few:=by decide
    rise:=by simp [usr]
    each:=λb hb=>by
      simp only [usr,List.mem_singleton] at hb;subst hb;exact ⟨by decide,by decide,by decide,by decide,by decide⟩
    valid:=by decide
    below:=λb hb=>by
      simp only [usr,List.mem_singleton] at hb;subst hb
      decide }
theorem live_true:F14 ((),())=some (true,()):=by
 have h5:=two;have h6:=box_two;unfold uz dPut at h5;have h12:F36 (([1,1],[1,1],()),())=some (true,()):=by kernel_rfl
 simp only [F14,F9,zE,List.isEmpty_cons,xf,zI,h5,h6,zd,h12];rfl
theorem F19_self (b:wN) (hl:b.2.2.2.1.length<=1000):F19 ((b,b,()),())=some (true,()):=by
 obtain ⟨nm,v,n,ls,⟨⟩⟩:=b;change ls.length<=1000 at hl;have hF:=zR
 have hL:L19_0 (((),(),(0:Int),()),((nm,v,n,ls,()),(nm,v,n,ls,()),()))=some (.inl ((),())):=by
  unfold L19_0;refine (yo (f:=B19_0) (λ(_:Unit) i=>(((),(),(i:Int),()),((nm,v,n,ls,()),(nm,v,n,ls,()),()))) ls (λ_ _=>.inl ()) (λ_=>(.inl ((),()):(Unit×Unit)⊕((Unit×Unit)×Unit))) (λb i x hi hx=>?_) (λb=>?_) (by omega) (b:=())).trans ?_
  ·have d0:decide ((i:Int)<((ls.length:Nat):Int))=true:=zm (by omega);have d1:decide ((0:Int)<=(i:Int))=true:=zm (by omega);have w1:zh ((i:Int)+1)=((i+1:Nat):Int):=by rw [zV (by omega) (by omega)];rfl
   simp only [B19_0,d0,d1,yW,zI,zd,yM,Bool.or_self,Bool.or_false,zK,w1]
  ·simp only [B19_0,Int.lt_irrefl,xA,zK]
  ·rw [wX]
 simp only [F19,zd,yM,Bool.or_self,zK,hL,zE]
theorem F20_self (u:ww) (hl:u.2.2.1.length<=1000) (hb:∀ b∈u.2.2.1,b.2.2.2.1.length<=1000):F20 ((u,u,()),())=some (true,()):=by
 obtain ⟨un,uv,ls,⟨⟩⟩:=u;change ls.length<=1000 at hl;change ∀ b∈ls,b.2.2.2.1.length<=1000 at hb;have hF:=zR
 have hL:L20_0 (((),(),(0:Int),()),((un,uv,ls,()),(un,uv,ls,()),()))=some (.inl ((),())):=by
  unfold L20_0;refine (yo (f:=B20_0) (λ(_:Unit) i=>(((),(),(i:Int),()),((un,uv,ls,()),(un,uv,ls,()),()))) ls (λ_ _=>.inl ()) (λ_=>(.inl ((),()):(Unit×Unit)⊕((Unit×Unit)×Unit))) (λb i x hi hx=>?_) (λb=>?_) (by omega) (b:=())).trans ?_
  ·have d0:decide ((i:Int)<((ls.length:Nat):Int))=true:=zm (by omega);have d1:decide ((0:Int)<=(i:Int))=true:=zm (by omega);have w1:zh ((i:Int)+1)=((i+1:Nat):Int):=by rw [zV (by omega) (by omega)];rfl
   have hm:x∈ls:=by
    have:=hx yE
    rw [vd hi] at this;rw [<- this];exact List.getElem_mem hi
   have e19:=F19_self (z8 x) (hb x hm);unfold z8 at e19;simp only [B20_0,d0,d1,yW,zI,yF,hx yE,e19,zE,yM,zK,w1]
  ·simp only [B20_0,Int.lt_irrefl,xA,zK]
  ·rw [wX]
 simp only [F20,zd,yM,Bool.or_self,zK,hL,zE]
theorem Good.same {u:ww} (G:Good u):F20 ((u,u,()),())=some (true,()):=F20_self u (Nat.le_trans G.few (by decide)) λb hb=>Nat.le_trans (G.len b hb) (by decide)
theorem rise_eqT:∀ {a b:List Tx},a.Perm b->a.Pairwise (λa b=>a<b)->b.Pairwise (λa b=>a<b)->a=b
 | [],b,h,_,_=>h.nil_eq
 | x::t,[],h,_,_=>by have:=h.length_eq;simp at this
 | x::t,y::s,h,h1,h2=>by
  obtain ⟨k1,k2⟩:=List.pairwise_cons.1 h1;obtain ⟨k3,k4⟩:=List.pairwise_cons.1 h2
  have e:x=y:=by
   rcases List.mem_cons.1 (h.mem_iff.1 (List.mem_cons_self ..)) with e | hx
   ·exact e
   ·rcases List.mem_cons.1 (h.symm.mem_iff.1 (List.mem_cons_self ..)) with e | hy
    ·exact e.symm
    ·exact absurd (List.lt_trans (k3 x hx) (k1 y hy)) (List.lt_irrefl _)
  subst e;rw [rise_eqT (List.Perm.cons_inv h) k2 k4]
theorem RelS.names {m:Mp} {ly:List Ur} (R:RelS m ly):(ly.map (·.1)).Pairwise (λa b=>a<b):=by
 rw [List.pairwise_map];exact R.rise
theorem nodup_of {l:List Tx} (h:l.Pairwise (λa b=>a<b)):l.Nodup:=h.imp λh e=>absurd (e ▸ h) (List.lt_irrefl _)
theorem RelS.keys {m:Mp} {ly:List Ur} (R:RelS m ly):wV m=ly.map (·.1):=by
 refine rise_eqT ?_ (keys_rise R.fine.nodup) R.names;refine (List.perm_ext_iff_of_nodup (nodup_of (keys_rise R.fine.nodup)) (nodup_of R.names)).2 λk=>?_
 rw [(keys_perm m).mem_iff];have hs:=R.same k;constructor
 ·intro h;obtain ⟨p,hp,rfl⟩:=List.mem_map.1 h;rw [vE xH R.fine.nodup (k:=p.1) (x:=p.2) hp] at hs
  have:=List.mem_of_find?_eq_some hs.symm
  have h2:=List.find?_some hs.symm;exact List.mem_map.2 ⟨_,this,of_decide_eq_true h2⟩
 ·intro h;obtain ⟨u,hu,rfl⟩:=List.mem_map.1 h
  cases hg:zO .str m u.1 with
  | some x=>exact List.mem_map.2 ⟨_,uo xH hg,rfl⟩
  | none =>
   rw [hg] at hs
   have:=List.find?_eq_none.1 hs.symm u hu
   simp at this
theorem RelS.at {m:Mp} {ly:List Ur} (R:RelS m ly) {i:Nat} (h:i<ly.length):zO .str m ly[i].1=some ly[i]:=by
 rw [R.same];have hp:=R.rise;have e:ly=ly.take i++ly[i]::ly.drop (i+1):=by rw [<- List.drop_eq_getElem_cons h,List.take_append_drop]
 have h1:∀ u∈ly.take i,u.1<ly[i].1:=λu hu=>by
  obtain ⟨j,hj,rfl⟩:=List.mem_take_iff_getElem.1 hu;exact List.pairwise_iff_getElem.1 hp j i (by omega) h (by omega)
 obtain ⟨x,hx⟩:∃ x,ly[i]=x:=⟨_,rfl⟩;rw [hx] at e h1 ⊢;rw [e,List.find?_append,fnd_lt h1,Option.none_or,List.find?_cons,zm rfl]
theorem F21_true {m:Mp} {ly:List Ur} (R:RelS m ly):F21 ((some (m,()),some (ly,()),()),())=some (true,()):=by
 have hF:=zR;have hf:=R.few;have e11:=F11_eq R.fine;rw [R.keys] at e11
 have hL:L21_0 ((some (m,()),some (ly,()),(),(0:Int),()),(ly.map (·.1),()))=some (.inl ((),())):=by
  unfold L21_0;refine (yo (f:=B21_0) (λ(_:Unit) i=>((some (m,()),some (ly,()),(),(i:Int),()),(ly.map (·.1),()))) ly (λ_ _=>.inl ()) (λ_=>.inl ((),())) (λb i x hi hx=>?_) (λb=>?_) (by omega) (b:=())).trans ?_
  ·have d0:decide ((i:Int)<((ly.length:Nat):Int))=true:=zm (by omega);have d1:decide ((0:Int)<=(i:Int))=true:=zm (by omega);have w1:zh ((i:Int)+1)=((i+1:Nat):Int):=by rw [zV (by omega) (by omega)];rfl
   have hx':=hx nou;rw [wn hi] at hx';have hm:=R.at hi;rw [hx'] at hm;have G:=(R.fine.fine _ x hm).1.good;have e12:=F12_eq hm G;have e20:=G.same;unfold usr at e20
   have hk:(ly.map (·.1)).getD i []=x.1:=by
    rw [wQ,List.getElem?_map,List.getElem?_eq_getElem hi,hx'];rfl
   simp only [B21_0,List.length_map,d0,d1,yW,zI,yF,hk,e12,zE,Option.isSome_some,Option.getD_some,List.getD_cons_zero,hx nou,Bool.true_or,zd,yM,Bool.or_self,xf,e20,zK,w1]
  ·simp only [B21_0,List.length_map,Int.lt_irrefl,xA,zK]
  ·rw [wX]
 simp only [F21,e11,zE,Option.isSome_some,Option.getD_some,List.getD_cons_zero,zI,List.length_map,zd,yM,zK,hL]
structure SmL (l:List Dd):Prop where
 len:l.length<=1050000
 each:∀ d∈l,Small3 d
 byts:∀ d∈l,d.2.2.2.2.2.2.2.2.2.1.length<=1050000
theorem fit_ok {l:List Dd} (S:SmL l):xz (.sl (.pair (.int .i64) (.pair .str (.pair .str (.pair .str (.pair (.int .i64) (.pair (.int .i64) (.pair .u8 (.pair (.int .i64) (.pair (.int .i64) (.pair (.sl (.rg .u8)) .unit))))))))))) l=true:=by
 have h1:=S.len;show (decide (List.length l<=4611686018427387904)&&List.all l _)=true;rw [zm (show List.length l<=4611686018427387904 by omega),Bool.true_and,List.all_eq_true];intro d hd;have h2:=S.byts d hd;obtain ⟨dd,du,db,dt,uid,how,fl,ds,de,by',⟨⟩⟩:=d;simp only at h2;have h3:decide (List.length by'<=4611686018427387904)=true:=zm (by omega);have h4:List.all by' (xz (.rg .u8))=true:=List.all_eq_true.2 λ_ _=>rfl
 show (true&&(true&&(true&&(true&&(true&&(true&&(true&&(true&&(true&&((decide (List.length by'<=4611686018427387904)&&List.all by' (xz (.rg .u8)))&&true))))))))))=true;rw [h3,h4];rfl
theorem L15_1_eq {m:Mp} {ly:List Ur} (R:RelS m ly) (all:List (List Dd)) (hs:∀ l∈all,SmL l) (i:Nat) (hi:i<all.length) :
  ∃ m' ly',L15_1 ((all,(),(),(i:Int),()),(((),()),(ly,()),m,()))=some (.inl ((all,(),(),(i:Int),()),(((),()),(ly',()),m',())))/\RelS m' ly':=by
 obtain ⟨l,hl⟩:∃ l,all[i]=l:=⟨_,rfl⟩;have hg:∀ z,all.getD i z=l:=λz=>by rw [wQ,List.getElem?_eq_getElem hi,hl];rfl
 have S:=hs l (by rw [<- hl];exact List.getElem_mem hi);obtain ⟨a,e,m',ly',o,D⟩:=do_both R l S.each;have e38:=F38_eq l S.len S.byts;have d0:decide ((i:Int)<((all.length:Nat):Int))=true:=zm (by omega);have d1:decide ((0:Int)<=(i:Int))=true:=zm (by omega)
 have hol:o.length<=1000:=by
  by_cases he:e=0
  ·subst he;have hd:=D.did;rw [D.good rfl];rcases Nat.lt_or_ge 12 l.length with h | h
   ·exfalso;have c0:decide (((l.length:Nat):Int)=0)=false:=yv (by omega);have c1:decide ((12:Int)<((l.length:Nat):Int))=true:=zm (by omega);have hr:=D.ref;simp only [F24,yM,zK,c0,c1,zI,y5,Prod.mk.injEq] at hr;omega
   ·omega
  ·rw [(D.bad he).2.2.1];simp
 have e36:=F36_self o hol;have ef:=fit_ok S;refine ⟨m',ly',?_,D.rel⟩;simp only [L15_1,M15_1,B15_1,d0,d1,yW,zI,yF,hg,e38,zE,D.tried,D.did,D.ref,e36,zd,yM,Bool.or_self,zK,xf,ef]
theorem F15_eq (all:List (List Dd)) (hs:∀ l∈all,SmL l):∃ m ly,F15 ((all,()),())=some (((),(),true,()),(((),()),(ly,()),m,()))/\RelS m ly:=by
 have hF:=zR
 obtain ⟨r,hr,m,ly,rfl,R⟩:∃ r,L15_0 ((all,(),(),(0:Int),()),(((),()),(([]:List Ur),()),([]:Mp),()))=some r/\∃ m ly,r=.inl (((),(),()),(((),()),(ly,()),m,()))/\RelS m ly:=by
  unfold L15_0;refine z6 (f:=B15_0) (λp=>∃ (i:Nat) (m:Mp) (ly:List Ur),i<=60/\RelS m ly/\p=((all,(),(),(i:Int),()),(((),()),(ly,()),m,()))) (λp=>60-p.1.2.2.2.1.toNat) _ ?_ ⟨0,[],[],by omega,RelS.nil,rfl⟩ (by simp only;omega);rintro p ⟨i,m,ly,hi,R,rfl⟩;by_cases h:i<all.length/\i<60
  ·have d0:decide ((i:Int)<((all.length:Nat):Int))=true:=zm (by omega);have d2:decide ((i:Int)<60)=true:=zm (by omega);have w1:zh ((i:Int)+1)=((i+1:Nat):Int):=by rw [zV (by omega) (by omega)];rfl
   obtain ⟨m',ly',e,R'⟩:=L15_1_eq R all hs i h.1;left;refine ⟨((all,(),(),((i+1:Nat):Int),()),(((),()),(ly',()),m',())),by simp only [B15_0,d0,d2,yW,zI,e,zE,w1],⟨i+1,m',ly',by omega,R',rfl⟩,?_⟩;simp only;omega
  ·right
   have d0:(decide ((i:Int)<((all.length:Nat):Int))&&decide ((i:Int)<60))=false:=by
    rw [Bool.and_eq_false_iff,decide_eq_false_iff_not,decide_eq_false_iff_not];omega
   exact ⟨_,by simp only [B15_0,d0,zK],m,ly,rfl,R⟩
 refine ⟨m,ly,?_,R⟩;have e21:=F21_true R;simp only [F15,F9,F37,zE,hr,e21]
theorem F41d_eq (ly:List Ur) (nm:Tx) (hl:ly.length<=1000) :
  ∃ lo:Nat,F41d ((some (ly,()),nm,()),())=some (((lo:Int),decide (lo<ly.length)&&decide ((ly.getD lo nou).1=nm),()),())/\lo<=ly.length /\
   (∀ k,k<lo->(ly.getD k nou).1<nm)/\(lo<ly.length->¬ (ly.getD lo nou).1<nm):=by
 have hF:=zR
 obtain ⟨r,h1,lo,rfl,h2,h3,h4⟩:=z6 (f:=B41d_0) (p:=((some (ly,()),nm,(0:Int),()),()))
  (λp=>∃ i:Nat,i<=ly.length/\(∀ k,k<i->(ly.getD k nou).1<nm)/\p=((some (ly,()),nm,(i:Int),()),())) (λp=>ly.length-p.1.2.2.1.toNat)
  (λr=>∃ lo:Nat,r=((some (ly,()),nm,(lo:Int),()),())/\lo<=ly.length/\(∀ k,k<lo->(ly.getD k nou).1<nm)/\(lo<ly.length->¬ (ly.getD lo nou).1<nm))
  (λp ⟨i,hi,hk,hp⟩=>by
   subst hp;rcases Nat.lt_or_ge i ly.length with h | h
   ·have d0:decide ((i:Int)<((ly.length:Nat):Int))=true:=zm (by omega);have d1:decide ((0:Int)<=(i:Int))=true:=zm (by omega);have w1:zh ((i:Int)+1)=((i+1:Nat):Int):=by rw [zV (by omega) (by omega)];rfl
    by_cases hb:(ly.getD i nou).1<nm
    ·left;refine ⟨((some (ly,()),nm,((i+1:Nat):Int),()),()),?_,⟨i+1,h,λk hk'=>?_,rfl⟩,by simp only;omega⟩
     ·have hb':Op.bytesLess (ly.getD i (([]:Tx),((0:Int),(([]:(List Bx)),())))).1 nm=true:=by rw [bl_eq];exact zm hb
      simp only [B41d_0,Option.isSome_some,Option.getD_some,List.getD_cons_zero,d0,d1,yW,Bool.true_or,zI,yF,hb',w1]
     ·rcases Nat.lt_or_ge k i with h' | h'
      ·exact hk k h'
      ·obtain rfl:k=i:=by omega
       exact hb
    ·right;refine ⟨((some (ly,()),nm,(i:Int),()),()),?_,i,rfl,hi,hk,λ_=>hb⟩;have hb':Op.bytesLess (ly.getD i (([]:Tx),((0:Int),(([]:(List Bx)),())))).1 nm=false:=by rw [bl_eq];exact yv hb
     simp only [B41d_0,Option.isSome_some,Option.getD_some,List.getD_cons_zero,d0,d1,yW,Bool.true_or,zI,yF,hb',Bool.and_false,zK]
   ·right;have d0:decide ((i:Int)<((ly.length:Nat):Int))=false:=yv (by omega);refine ⟨((some (ly,()),nm,(i:Int),()),()),?_,i,rfl,hi,hk,λh'=>absurd h' (by omega)⟩
    simp only [B41d_0,Option.isSome_some,Option.getD_some,List.getD_cons_zero,d0,xf,Bool.or_true,zI,Bool.false_and,zK])
  ⟨0,Nat.zero_le _,λk hk=>absurd hk (Nat.not_lt_zero _),rfl⟩ (by simp only;omega)
 refine ⟨lo,?_,h2,h3,h4⟩;have hL:L41d_0 ((some (ly,()),nm,(0:Int),()),())=some ((some (ly,()),nm,(lo:Int),()),()):=h1;have d1:decide ((0:Int)<=(lo:Int))=true:=zm (by omega);have e:decide ((lo:Int)<((ly.length:Nat):Int))=decide (lo<ly.length):=by rw [decide_eq_decide];omega
 have o:∀ b:Bool,(b||!b)=true:=λb=>by cases b <;> rfl
 simp only [F41d,Option.isSome_some,Option.getD_some,List.getD_cons_zero,hL,zE,zI,Bool.true_or,d1,Bool.true_and,e,o,yF]
theorem F40d_eq (u:ww) (nm:Tx) (hl:u.2.2.1.length<=1000):∃ z,F40d ((u,nm,()),())=some (((),u.2.2.1.foldl (tA nm) yO,yX u.2.2.1 nm,()),z):=by
 obtain ⟨un,uv,ls,⟨⟩⟩:=u;change ls.length<=1000 at hl;have hF:=zR
 obtain ⟨r,hr,c,k,rfl,hc⟩:∃ r,L40d_0 ((nm,(),(),(),(),false,(0:Int),()),((un,uv,ls,()),((),(),(),(),()),([]:List (Bool×Bx)),yO,([]:List yJ),()))=some r/\∃ (c:List (Bool×Bx)) (k:List yJ),r=(((),(),(),yX ls nm,()),(((),(),(),(),()),c,ls.foldl (tA nm) yO,k,()))/\True:=by
  unfold L40d_0;refine z6 (f:=B40d_0) (λp=>∃ (i:Nat) (c:List (Bool×Bx)),i<=ls.length/\c.length<=i/\p=((nm,(),(),(),(),yX (ls.take i) nm,(i:Int),()),((un,uv,ls,()),((),(),(),(),()),c,(ls.take i).foldl (tA nm) yO,([]:List yJ),()))) (λp=>ls.length-p.1.2.2.2.2.2.2.1.toNat) _ ?_ ⟨0,[],Nat.zero_le _,Nat.le_refl _,rfl⟩ (by simp only;omega);rintro p ⟨i,c,hi,hc,rfl⟩;rcases Nat.lt_or_ge i ls.length with h | h
  ·left;have d0:decide ((i:Int)<((ls.length:Nat):Int))=true:=zm (by omega);have d1:decide ((0:Int)<=(i:Int))=true:=zm (by omega);have w1:zh ((i:Int)+1)=((i+1:Nat):Int):=by rw [zV (by omega) (by omega)];rfl
   have b1:∀ x:Bool×Bx,zH (c.length+[x].length) 56=true:=λx=>zl (by simp only [lSg];omega)
   have ht:ls.take (i+1)=ls.take i++[ls[i]]:=take_one h;have hg:ls.getD i yE=ls[i]:=by rw [wQ,List.getElem?_eq_getElem h];rfl
   have e1:yX (ls.take (i+1)) nm=(yX (ls.take i) nm||decide (ls[i].1=nm)):=by rw [ht];unfold yX;rw [List.any_append];simp only [List.any_cons,List.any_nil,Bool.or_false]
   have e2:(ls.take (i+1)).foldl (tA nm) yO=tA nm ((ls.take i).foldl (tA nm) yO) ls[i]:=by rw [ht,List.foldl_append];rfl
   by_cases hn:ls[i].1=nm
   ·refine ⟨_,?_,⟨i+1,c,h,Nat.le_succ_of_le hc,rfl⟩,by simp only;omega⟩;rw [e1,e2];generalize ls[i]=x at hg hn;obtain ⟨x1,x2,x3,x4,⟨⟩⟩:=x;simp only at hn;simp only [B40d_0,d0,d1,yW,zI,yF,hg,hn,zd,zE,w1,Bool.or_true,tA,↓reduceIte,z8]
   ·refine ⟨_,?_,⟨i+1,c++[(false,ls[i])],h,by rw [xe,lSg];omega,rfl⟩,by simp only;omega⟩;rw [e1,e2];generalize ls[i]=x at hg hn;obtain ⟨x1,x2,x3,x4,⟨⟩⟩:=x;simp only at hn;simp only [B40d_0,d0,d1,yW,zI,yF,hg,yv hn,zK,b1,zE,w1,Bool.or_false,tA,if_neg hn]
  ·right;obtain rfl:i=ls.length:=by omega
   rw [List.take_length];exact ⟨_,by simp only [B40d_0,Int.lt_irrefl,xA,zK],c,[],rfl,trivial⟩
 have he:(([]:Tx),(0:Int),(0:Int),([]:List yJ),())=yO:=rfl;refine ⟨(c,()),?_⟩;simp only [F40d,zE,List.map_nil,he,hr]
theorem F18_is {m:Mp} {ly:List Ur} (R:RelS m ly) {nm:Tx} {u:Ur} (h:zO .str m nm=some u):F18 ((some (ly,()),nm,()),())=some (((u.1,u.2.1,u.2.2.1,()),0,()),()):=by
 have hf:=R.few;obtain ⟨lo,e,h2,h3,h4⟩:=F41d_eq ly nm (by omega);rcases (uj R.rise h2 h3 h4).2 with ⟨p1,p2,p3,_⟩ | ⟨p1,p2⟩
 ·have hu:=R.at p2;rw [wn p2] at p3;rw [p3,h] at hu;have hu:=(Option.some.inj hu).symm;rw [p1] at e;have d0:decide ((0:Int)<=(lo:Int))=true:=zm (by omega);have d1:decide ((lo:Int)<((ly.length:Nat):Int))=true:=zm (by omega);have hg:ly.getD lo nou=u:=by rw [wn p2,hu]
  obtain ⟨un,uv,ls,⟨⟩⟩:=u;simp only [F18,Option.isNone_some,Option.isSome_some,Option.getD_some,List.getD_cons_zero,zK,e,zE,yM,zI,d0,d1,yW,yF,hg]
 ·exfalso;rw [R.same] at h;have hm:=List.mem_of_find?_eq_some h;have hn:u.1=nm:=by simpa using List.find?_some h
  rcases List.mem_append.1 (by rw [List.take_append_drop];exact hm:u∈ly.take lo++ly.drop lo) with h' | h'
  ·have:=(uj R.rise h2 h3 h4).1 u h'
   rw [hn] at this;exact List.lt_irrefl _ this
  ·have:=p2 u h'
   rw [hn] at this;exact List.lt_irrefl _ this
theorem F18_no {m:Mp} {ly:List Ur} (R:RelS m ly) {nm:Tx} (h:zO .str m nm=none):F18 ((some (ly,()),nm,()),())=some ((([],0,[],()),9,()),()):=by
 have hf:=R.few;obtain ⟨lo,e,h2,h3,h4⟩:=F41d_eq ly nm (by omega);rcases (uj R.rise h2 h3 h4).2 with ⟨p1,p2,p3,_⟩ | ⟨p1,p2⟩
 ·have hu:=R.at p2;rw [wn p2] at p3;rw [p3,h] at hu
  cases hu
 ·rw [p1] at e;simp only [F18,Option.isNone_some,zK,e,zE,xf,zI]
def toldB (m:Mp) (user nm:Tx):wN×Int×Unit:=match boxOf m user nm with | some b=>(z8 b,(0:Int),()) | none=>(([],0,0,[],()),(9:Int),())
theorem F17_eq {m:Mp} {ly:List Ur} (R:RelS m ly) (user nm:Tx):F17 ((some (ly,()),user,nm,()),())=some (toldB m user nm,()):=by
 unfold toldB boxOf
 cases h:zO .str m user with
 | none=>simp only [F17,F18_no R h,zE,show decide ((9:Int)=0)=false from rfl,xf,zI]
 | some u =>
  have G:=(R.fine.fine _ u h).1.good;obtain ⟨z,e⟩:=F40d_eq (usr u) nm (Nat.le_trans G.few (by decide));obtain ⟨un,uv,ls,⟨⟩⟩:=u;have e18:=F18_is R h;simp only at e18;have hr:ls.Pairwise (λa b=>a.1<b.1):=G.rise;unfold usr at e;simp only at e
  cases hh:yX ls nm with
  | false =>
   rw [hh] at e;simp only [F17,e18,zE,zd,yM,xf,zK,zI,e,find_none hh]
  | true =>
   obtain ⟨lo,_,_,_,_,h5,_⟩:=F39_eq ((un,uv,ls,()):ww) nm (Nat.le_trans G.few (by decide)) hr;obtain ⟨h6,h7⟩:=h5 hh;rw [hh,one_at hr h6 h7] at e;simp only [F17,e18,zE,zd,yM,zK,e,find_at hr h6 h7,z8]
theorem fitBx_ok {b:Bx} (hl:b.2.2.2.1.length<=1000) (hb:∀ l∈b.2.2.2.1,l.2.2.1.length<=1000):xz Go.Sw.BxR b=true:=by
 obtain ⟨x1,x2,x3,ls,⟨⟩⟩:=b;simp only at hl hb;have h1:decide (List.length ls<=4611686018427387904)=true:=zm (by omega)
 have h2:List.all ls (xz (.rg Go.Sw.LtR))=true:=List.all_eq_true.2 λl h=>by
  have h2:=hb l h;obtain ⟨l1,l2,l3,⟨⟩⟩:=l;simp only at h2;have h3:decide (List.length l3<=4611686018427387904)=true:=zm (by omega);have h4:List.all l3 (xz (.rg .u8))=true:=List.all_eq_true.2 λ_ _=>rfl
  show (true&&(true&&((decide (List.length l3<=4611686018427387904)&&List.all l3 (xz (.rg .u8)))&&true)))=true;rw [h3,h4];rfl
 show (true&&(true&&(true&&((decide (List.length ls<=4611686018427387904)&&List.all ls (xz (.rg Go.Sw.LtR)))&&true))))=true;rw [h1,h2];rfl
theorem fitUs_ok {u:Ur} (hl:u.2.2.1.length<=1000) (hb:∀ b∈u.2.2.1,xz Go.Sw.BxR b=true):xz Go.Sw.UsR u=true:=by
 obtain ⟨x1,x2,ls,⟨⟩⟩:=u;simp only at hl hb;have h1:decide (List.length ls<=4611686018427387904)=true:=zm (by omega);have h2:List.all ls (xz (.rg Go.Sw.BxR))=true:=List.all_eq_true.2 λl h=>hb l h
 show (true&&(true&&((decide (List.length ls<=4611686018427387904)&&List.all ls (xz (.rg Go.Sw.BxR)))&&true)))=true;rw [h1,h2];rfl
theorem toldB_good {m:Mp} {ly:List Ur} (R:RelS m ly) (user nm:Tx):(toldB m user nm).1.2.2.2.1.length<=1000/\∀ l∈(toldB m user nm).1.2.2.2.1,l.2.2.1.length<=1000:=by
 unfold toldB boxOf
 cases h:zO .str m user with
 | none=>simp
 | some u =>
  have G:=(R.fine.fine _ u h).1.good
  cases hf:u.2.2.1.find? (λb=>decide (b.1=nm)) with
  | none=>simp [hf]
  | some b =>
   have hm:=List.mem_of_find?_eq_some hf;have RB:=G.each b hm;simp only [hf];exact ⟨Nat.le_trans RB.few (by decide),λl hl=>Nat.le_trans (RB.each l hl).2.2.2 (by decide)⟩
theorem law5 (all:List (List Dd)) (user nm:Tx) (hs:∀ l∈all,SmL l):F5 ((all,user,nm,()),())=some (true,()):=by
 obtain ⟨m,ly,e15,R⟩:=F15_eq all hs;have e16:F16 ((some (m,()),user,nm,()),())=some (toldB m user nm,()):=F16_eq m user nm λu hu=>(R.fine.fine _ u hu).1.good
 have e17:=F17_eq R user nm;obtain ⟨tl,tb⟩:=toldB_good R user nm;have e19:=F19_self (toldB m user nm).1 tl;have e21:=F21_true R;generalize toldB m user nm=tb0 at e16 e17 tl tb e19;obtain ⟨⟨b1,b2,b3,b4,⟨⟩⟩,be,⟨⟩⟩:=tb0;simp only at tl tb e19;have fb:=fitBx_ok (b:=(b1,b2,b3,b4,())) tl tb
 suffices h:∃ (u1:Tx) (u2:Int) (u3:List Bx) (ue:Int),F12 ((some (m,()),user,()),())=some (((u1,u2,(),()),ue,()),(u3,()))/\F18 ((some (ly,()),user,()),())=some (((u1,u2,u3,()),ue,()),())/\F20 (((u1,u2,u3,()),(u1,u2,u3,()),()),())=some (true,())/\xz Go.Sw.UsR (u1,u2,u3,())=true by
  obtain ⟨u1,u2,u3,ue,e12,e18,e20,fu⟩:=h
  have hM:M5_0 ((user,nm,some (m,()),some (ly,()),()),())=some ((b1,b2,b3,b4,()),(u1,u2,u3,()),be,(b1,b2,b3,b4,()),be,ue,(u1,u2,u3,()),ue,()):=by
   simp only [M5_0,e16,e17,e12,e18,zE]
  have hB:B5_0 ((user,nm,some (m,()),some (ly,()),()),()) ((b1,b2,b3,b4,()),(u1,u2,u3,()),be,(b1,b2,b3,b4,()),be,ue,(u1,u2,u3,()),ue,())=some (.inl ((some (m,()),some (ly,()),()),())):=by
   simp only [B5_0,List.getD_cons_zero,e19,zE,yM,zd,Bool.or_self,xf,zI,e20,zK]
  have hL:L5_0 ((user,nm,some (m,()),some (ly,()),()),())=some ((true,()),()):=by
   simp only [L5_0,hM,hB,zE,Go.Sw.teFit,fb,fu,yW,zI,R5_0,live_true,e21]
  simp only [F5,e15,zE,yM,zK,hL]
 cases h:zO .str m user with
 | none=>exact ⟨[],0,[],9,F12_none h,F18_no R h,F20_self ([],0,[],()) (by simp) (by simp),fitUs_ok (u:=([],0,[],())) (by simp) (by simp)⟩
 | some u =>
  have G:=(R.fine.fine _ u h).1.good;have e20:=G.same;unfold usr at e20;refine ⟨u.1,u.2.1,u.2.2.1,0,F12_eq h G,F18_is R h,e20,fitUs_ok (u:=u) (Nat.le_trans G.few (by decide)) λb hb=>?_⟩;have RB:=G.each b hb;exact fitBx_ok (Nat.le_trans RB.few (by decide)) λl hl=>Nat.le_trans (RB.each l hl).2.2.2 (by decide)
abbrev DdT:Ty:=.pair (.int .i64) (.pair .str (.pair .str (.pair .str (.pair (.int .i64) (.pair (.int .i64) (.pair .u8 (.pair (.int .i64) (.pair (.int .i64) (.pair (.sl .u8) .unit)))))))))
theorem sum_mem {α:Type} (f:α->Nat):∀ (l:List α) (x:α),x∈l->f x<=(l.map f).sum
 | [],_,h=>by cases h
 | a::t,x,h=>by
  rw [List.map_cons,List.sum_cons];rcases List.mem_cons.1 h with rfl | h
  ·omega
  ·have:=sum_mem f t x h;omega
theorem len_sum {α:Type} (f:α->Nat):∀ (l:List α),(∀ x,1<=f x)->l.length<=(l.map f).sum
 | [],_=>Nat.zero_le _
 | a::t,h=>by
  rw [List.map_cons,List.sum_cons,List.length_cons]
  have:=len_sum f t h
  have:=h a
  omega
theorem dd_size (d:Dd):1+((d.2.1.length+1)+((d.2.2.1.length+1)+((d.2.2.2.1.length+1)+(1+(1+(1+(1+(1+(d.2.2.2.2.2.2.2.2.2.1.length+0)))))))))=wa DdT d:=by
 obtain ⟨dd,du,db,dt,uid,how,fl,ds,de,by',⟨⟩⟩:=d;show _=1+((du.length+1)+((db.length+1)+((dt.length+1)+(1+(1+(1+(1+(1+(wa (.sl .u8) by'+0)))))))));rw [sizD_u8]
theorem sm_list (l:List Dd) (hz:wa (.sl DdT) l<=1048576):SmL l where
 len:=by
  have h4:wa (.sl DdT) l=(List.map (wa DdT) l).sum:=rfl
  have:=len_sum (wa DdT) l λd=>by have:=dd_size d;omega
  omega
 each:=λd hd=>by
  have h3:=sum_mem (wa DdT) l d hd;have h4:wa (.sl DdT) l=(List.map (wa DdT) l).sum:=rfl;have h5:=dd_size d;exact ⟨by omega,by omega,by omega⟩
 byts:=λd hd=>by
  have h3:=sum_mem (wa DdT) l d hd;have h4:wa (.sl DdT) l=(List.map (wa DdT) l).sum:=rfl;have h5:=dd_size d;omega
theorem sm_all (all:List (List Dd)) (hz:wa (.sl (.sl DdT)) all<=1048576):∀ l∈all,SmL l:=λl hl =>
 sm_list l (by
  have h1:(List.map (wa (.sl DdT)) all).sum<=1048576:=hz;have h2:=sum_mem (wa (.sl DdT)) all l hl
  omega)
theorem law5' (all:List (List Dd)) (user nm:Tx) (hz:wa (.sl (.sl DdT)) all<=1048576):F5 ((all,user,nm,()),())=some (true,()):=law5 all user nm (sm_all all hz)
end Go.So
namespace Go.So
open Go Go.Ev Go.Proofs
set_option maxRecDepth 100000
theorem maxl (w:World) (h:w.ShapedOpen Tryz.prog):∃ m,w.cell? ⟨0,0,none⟩=some (.int .i64 m) :=
 Go.Proofs.cell_of_shapedOpen_int (zero:=#[.int .i64 0]) (t:=3) h (of_decide_eq_true (by kernel_rfl)) (by kernel_rfl) rfl (by kernel_rfl) (by kernel_rfl) Tryz.underlying3
end Go.So
