/- Texts that the last one leans on, 10. -/
import Derived.Test.YtipfcejaekfogaaGreatDoorMI
import Derived.Shelf.Vars
namespace Go.So
open Go Go.Ev
set_option maxRecDepth 100000
theorem nm_lt {ls:List Bx} (hr:ls.Pairwise (λa b=>a.1<b.1)) {lo:Nat} (h:lo<ls.length):(∀ b∈ls.take lo,b.1<(ls.getD lo nob).1)/\(∀ b∈ls.drop (lo+1),(ls.getD lo nob).1<b.1):=by
 have hd:ls.drop lo=ls[lo]::ls.drop (lo+1):=List.drop_eq_getElem_cons h
 rw [getDb_eq h]
 refine ⟨λb hb=>?_,λb hb=>?_⟩
 ·obtain ⟨i,hi,rfl⟩:=List.mem_take_iff_getElem.1 hb
  exact List.pairwise_iff_getElem.1 hr i lo (by omega) h (by omega)
 ·have hp:(ls.drop lo).Pairwise (λa b=>a.1<b.1):=hr.sublist (List.drop_sublist _ _)
  rw [hd] at hp
  exact (List.pairwise_cons.1 hp).1 b hb
theorem filter_self {ls:List Bx} {nm:Tx} (h:∀ b∈ls,b.1≠nm):but ls nm=ls:=by
 unfold but
 rw [List.filter_eq_self]
 intro b hb
 rw [dFf (h b hb)]
 rfl
theorem but_none {ls:List Bx} {nm:Tx} (h:hasB ls nm=false):but ls nm=ls:=by
 refine filter_self λb hb e=>?_
 unfold hasB at h
 rw [List.any_eq_false] at h
 exact h b hb (dTt e)
theorem split_at {ls:List Bx} {lo:Nat} (h:lo<ls.length):ls=ls.take lo++ls.getD lo nob::ls.drop (lo+1):=by
 rw [getDb_eq h,<- List.drop_eq_getElem_cons h,List.take_append_drop]
theorem but_at {ls:List Bx} (hr:ls.Pairwise (λa b=>a.1<b.1)) {lo:Nat} (h:lo<ls.length) {nm:Tx} (he:(ls.getD lo nob).1=nm):but ls nm=ls.take lo++ls.drop (lo+1):=by
 obtain ⟨h1,h2⟩:=nm_lt hr h
 rw [he] at h1 h2
 have e1:but (ls.take lo) nm=ls.take lo:=filter_self λb hb e=>absurd (e ▸ h1 b hb) (List.lt_irrefl _)
 have e2:but (ls.drop (lo+1)) nm=ls.drop (lo+1):=filter_self λb hb e=>absurd (e ▸ h2 b hb) (List.lt_irrefl _)
 have hb:∀ l,but l nm=l.filter λb=>!decide (b.1=nm):=λ_=>rfl
 rw [hb] at e1 e2
 conv=>lhs;rw [split_at h,hb,List.filter_append,List.filter_cons]
 rw [dTt he,e1,e2]
 rfl
theorem one_none {nm:Tx}:∀ (ls:List Bx) (o:Box),(∀ b∈ls,b.1≠nm)->ls.foldl (oneG nm) o=o
 | [],_,_=>rfl
 | a::t,o,h=>by
  rw [List.foldl_cons,show oneG nm o a=o from if_neg (h a (List.mem_cons_self ..))]
  exact one_none t o λb hb=>h b (List.mem_cons_of_mem _ hb)
theorem one_at {ls:List Bx} (hr:ls.Pairwise (λa b=>a.1<b.1)) {lo:Nat} (h:lo<ls.length) {nm:Tx} (he:(ls.getD lo nob).1=nm) (o:Box):ls.foldl (oneG nm) o=bxOf (ls.getD lo nob):=by
 obtain ⟨h1,h2⟩:=nm_lt hr h
 rw [he] at h1 h2
 conv=>lhs;rw [split_at h,List.foldl_append,List.foldl_cons]
 have k:∀ o',oneG nm o' (ls.getD lo nob)=bxOf (ls.getD lo nob):=λ_=>if_pos he
 rw [k,one_none (ls.drop (lo+1)) _ λb hb e=>absurd (e ▸ h2 b hb) (List.lt_irrefl _)]
theorem set_split {ls:List Bx} {lo:Nat} (h:lo<ls.length) (b:Bx):ls.set lo b=ls.take lo++[b]++ls.drop (lo+1):=by
 rw [List.set_eq_take_append_cons_drop,if_pos h]
 simp
theorem lay_set {ls:List Bx} (hr:ls.Pairwise (λa b=>a.1<b.1)) {lo:Nat} (h:lo<ls.length) (b:Bx) (he:b.1=(ls.getD lo nob).1):lay1 b (ls.take lo++ls.drop (lo+1))=ls.set lo b:=by
 obtain ⟨h1,h2⟩:=nm_lt hr h
 refine rise_eq ?_ (lay1_rise _ _ (hr.sublist (del_sub ls lo)) λx hx e=>?_) (set_rise hr he h)
 ·rw [set_split h]
  refine (lay1_perm _ _).trans ?_
  rw [List.append_assoc]
  exact List.perm_middle.symm
 ·rw [he] at e
  rcases List.mem_append.1 hx with hx | hx
  ·exact absurd (e ▸ h1 x hx) (List.lt_irrefl _)
  ·exact absurd (e ▸ h2 x hx) (List.lt_irrefl _)
theorem lay_ins {ls:List Bx} (hr:ls.Pairwise (λa b=>a.1<b.1)) {lo:Nat} {x:Bx} (h1:∀ k,k<lo->(ls.getD k nob).1<x.1) (h2:∀ k,lo<=k->k<ls.length->x.1<(ls.getD k nob).1) (hn:∀ b∈ls,b.1≠x.1) :
  lay1 x ls=ls.take lo++[x]++ls.drop lo:=by
 refine rise_eq ?_ (lay1_rise _ _ hr hn) (ins_rise hr h1 h2)
 refine (lay1_perm _ _).trans ?_
 rw [List.append_assoc]
 have:=(List.perm_middle (a:=x) (l₁:=ls.take lo) (l₂:=ls.drop lo)).symm
 rw [List.take_append_drop] at this
 exact this
structure Both (m:Mp) (ly:List Ur) (d:Dd):Prop where
 ex:∃ n e m' n' ly',F48 ((true,d,()),(((),()),m,()))=some ((n,e,()),(((),()),m',()))/\F43 ((true,d,()),((ly,()),()))=some ((n',e,()),((ly',()),()))/\(e=0->n'=n)/\RelS m' ly'/\(e≠0->m'=m/\ly'=ly)
abbrev Small3 (d:Dd):Prop:=d.2.1.length<=1050000/\d.2.2.1.length<=1050000/\d.2.2.2.1.length<=1050000
theorem kept_both {m:Mp} {ly:List Ur} (R:RelS m ly) {nm:Tx} {lo:Nat} (P:Place ly nm lo true) (r:Usr×Int×Int×Unit) (h:r.2.2.1=0->Fine r.1/\r.1.1=nm) :
  RelS (kept m nm r).2 (if r.2.2.1=0 then ly.take lo++[(r.1.1,(r.1.2.1,(r.1.2.2.1,())))]++ly.drop (lo+1) else ly)/\(r.2.2.1≠0->(kept m nm r).2=m):=by
 unfold kept
 simp only
 by_cases h0:r.2.2.1=0
 ·rw [if_pos h0,if_pos h0]
  obtain ⟨h1,h2⟩:=h h0
  subst h2
  exact ⟨R.swap P h1,λh=>absurd h0 h⟩
 ·rw [if_neg h0,if_neg h0]
  exact ⟨R,λ_=>rfl⟩
theorem Both.of {m:Mp} {ly:List Ur} (R:RelS m ly) {d:Dd} {lo:Nat} (P:Place ly d.2.1 lo true) {r:Usr×Int×Int×Unit} (h:r.2.2.1=0->Fine r.1/\r.1.1=d.2.1)
  (h1:F48 ((true,d,()),(((),()),m,()))=some ((kept m d.2.1 r).1,(((),()),(kept m d.2.1 r).2,())))
  (h2:F43 ((true,d,()),((ly,()),()))=some ((if r.2.2.1=0 then (r.2.1,0,()) else (0,r.2.2.1,())),(((if r.2.2.1=0 then ly.take lo++[(r.1.1,(r.1.2.1,(r.1.2.2.1,())))]++ly.drop (lo+1) else ly),()),()))):Both m ly d:=by
 obtain ⟨k1,k2⟩:=kept_both R P r h
 by_cases h0:r.2.2.1=0
 ·rw [if_pos h0] at h2 k1
  rw [if_pos h0] at h2
  exact ⟨r.2.1,0,_,_,_,by rw [h1];unfold kept;simp only [h0],h2,λ_=>rfl,k1,λh=>absurd rfl h⟩
 ·rw [if_neg h0] at h2 k1
  rw [if_neg h0] at h2
  exact ⟨r.2.1,r.2.2.1,_,_,_,by rw [h1];unfold kept;rfl,h2,λh=>absurd h h0,k1,λ_=>⟨k2 h0,rfl⟩⟩
theorem deed_both {m:Mp} {ly:List Ur} (R:RelS m ly) (d:Dd) (hs:Small3 d):Both m ly d:=by
 obtain ⟨s1,s2,s3⟩:=hs
 have hml:(1050000:Nat)<=maxLen:=by decide
 have e60:=F60_F73 d (by omega) (by omega) (by omega)
 obtain ⟨e0,hc,hC⟩:=F73_ex d (by omega)
 rw [hc] at e60
 have hf:=R.few
 by_cases he0:e0=0
 rotate_left
 ·refine ⟨0,e0,m,0,ly,F48_bad m d e0 hc he0,?_,λ_=>rfl,R,λ_=>⟨rfl,rfl⟩⟩
  obtain ⟨dd,du,db,dt,uid,how,fl,ds,de,by',⟨⟩⟩:=d
  simp only [F43,e60,oBs,dFf he0,Bool.not_false,cTt]
 subst he0
 obtain ⟨C,hE⟩:=hC rfl
 have hrange:1<=d.1/\d.1<=9:=by
  by_cases h:1<=d.1/\d.1<=9
  ·exact h
  ·exfalso
   obtain ⟨dd,du,db,dt,uid,how,fl,ds,de,by',⟨⟩⟩:=d
   have c:(decide (dd<1)||decide (9<dd))=true:=by
    rw [Bool.or_eq_true,dTe,dTe];simp only at h;omega
   simp only [F60,c,cTt,oSi,Prod.mk.injEq] at e60
   omega
 by_cases h1:d.1=1
 ·obtain ⟨ly',e61,R',hne⟩:=F61_both R (new_fine C.user)
  refine ⟨1,_,_,1,ly',F48_open m d hc h1,?_,λ_=>rfl,R',hne⟩
  obtain ⟨dd,du,db,dt,uid,how,fl,ds,de,by',⟨⟩⟩:=d
  simp only at h1 e61 ⊢
  subst h1
  unfold newU inbx at e61
  simp only [F43,e60,oBs,dTr,Bool.not_true,cFf,cTt,e61]
  rfl
 by_cases h8:d.1=8
 ·obtain ⟨u,h75,_,hF⟩:=hE h8
  obtain ⟨ly',e61,R',hne⟩:=F61_both R hF
  refine ⟨0,_,_,0,ly',F48_enter m d u hc h8 h75,?_,λ_=>rfl,R',hne⟩
  obtain ⟨dd,du,db,dt,uid,how,fl,ds,de,by',⟨⟩⟩:=d
  have e62:=F62_took by'
  have e75:=F75_took by'
  simp only at h75 h8
  rw [h75] at e75
  subst h8
  simp only [oSi,Prod.mk.injEq,and_true] at e75
  obtain ⟨q1,q2⟩:=e75
  rw [<- q1] at e62
  obtain ⟨un,uv,ls,⟨⟩⟩:=u
  simp only at e62
  simp only [F43,e60,oBs,dTr,Bool.not_true,cFf,cTt,z81,e62,e61]
 obtain ⟨lo,there,P⟩:=R.place d.2.1
 have hg:=P.get R
 have f41:=P.f41
 cases there with
 | false =>
  rw [if_neg (by simp)] at hg
  refine ⟨0,9,m,0,ly,F48_gone m d hc h1 h8 hg,?_,λ_=>rfl,R,λ_=>⟨rfl,rfl⟩⟩
  obtain ⟨dd,du,db,dt,uid,how,fl,ds,de,by',⟨⟩⟩:=d
  simp only at h1 h8 f41
  simp only [F43,e60,oBs,dTr,Bool.not_true,cFf,cTt,dFf h1,dFf h8,f41,Bool.not_false]
 | true =>
 rw [if_pos rfl] at hg
 obtain ⟨p1,p2,p3⟩:=P.yes rfl
 have w1:w64 ((lo:Int)+1)=((lo+1:Nat):Int):=by rw [w64_id (by omega) (by omega)];rfl
 by_cases h9:d.1=9
 ·refine ⟨0,0,_,0,_,F48_leave m d _ hc h9 hg,?_,λ_=>rfl,R.del P,λh=>absurd rfl h⟩
  have e63:=F63_eq ly [] lo (lo+1) (by omega) (by simp) P.le (by omega)
  rw [List.append_nil] at e63
  obtain ⟨dd,du,db,dt,uid,how,fl,ds,de,by',⟨⟩⟩:=d
  simp only at h1 h8 h9 f41
  subst h9
  simp only [F43,e60,oBs,dTr,Bool.not_true,cFf,cTt,z91,z98,f41,w1,e63]
 obtain ⟨u,hu⟩:∃ u,ly.getD lo nou=u:=⟨_,rfl⟩
 rw [hu] at hg p2
 obtain ⟨Fu,hk⟩:=R.fine.fine d.2.1 u hg
 have Gu:Good (usr u):=Fu.good
 have g1:=Gu.few
 have g2:=Gu.rise
 have d0:decide ((lo:Int)<((ly.length:Nat):Int))=true:=dTt (by omega)
 have d1:decide ((0:Int)<=(lo:Int))=true:=dTt (by omega)
 have e40:=F40_eq (usr u) d.2.2.1 (by omega)
 have e63:=λx:Ur=>F63_eq ly [x] lo (lo+1) (by omega) (by simp) P.le (by omega)
 have hex:∃ x,x=u:=⟨u,rfl⟩
 obtain ⟨un,uv,ls,⟨⟩⟩:=u
 have hu':ly.getD lo (([]:Tx),((0:Int),(([]:(List Bx)),())))=(un,(uv,(ls,()))):=hu
 unfold usr at e40 Gu g1 g2
 simp only at e40 g1 g2
 by_cases h2:d.1=2
 ·obtain ⟨lb,e1,e2,e3,e4,e5,e6⟩:=F76_eq (un,uv,ls,()) d (by simp only;omega) g2
  simp only at e2 e3 e4 e5 e6
  refine Both.of R P (r:=shpd (un,uv,ls,()) lb d) (λhe=>?_) (F48_shape m d _ lb hc (.inl h2) hg e1) ?_
  ·obtain ⟨q1,q2⟩:=make_fine Fu d h2 e2 e3 e4 e6 (C.box h2) he
   exact ⟨q1,q2.trans hk⟩
  ·have hrB:=C.box h2
   by_cases hE0:(shpd (un,uv,ls,()) lb d).2.2.1=0
   ·obtain ⟨-,hh,hsh⟩:=make_good Gu d h2 e2 e3 e4 e6 hE0
    simp only at hh hsh
    have hv:=Gu.valid
    have hno:¬ (6<=ls.length\/4294967295<=uv):=by
     unfold shpd at hE0
     rw [if_pos h2,if_neg (by simp only;rw [hh];simp)] at hE0
     simp only at hE0 hv
     by_cases h':ls.length=6\/uv=4294967295
     ·rw [if_pos h'] at hE0;simp at hE0
     ·omega
    rw [hsh]
    have e64:=F64_eq ls (d.2.2.1,(uv+1,(1,([],())))) (by omega)
    rw [lay_ins g2 e3 (λk h1 h2=>tx_total (e4 k h1 h2) (e6 hh k h2)) (λb hb=>by
     obtain ⟨k,hk,rfl⟩:=List.getElem_of_mem hb
     have:=e6 hh k hk
     rwa [getDb_eq hk] at this)] at e64
    rw [hh,but_none hh] at e40
    obtain ⟨dd,du,db,dt,uid,how,fl,ds,de,by',⟨⟩⟩:=d
    simp only at h1 h2 h8 f41 e40 hv e63 e64
    subst h2
    have hw:w64 (uv+1)=uv+1:=w64_id (by omega) (by omega)
    have c2:(decide ((6:Int)<=((ls.length:Nat):Int))||decide ((4294967295:Int)<=uv))=false:=by
     rw [Bool.or_eq_false_iff,decide_eq_false_iff_not,decide_eq_false_iff_not];omega
    unfold bxOf at e64
    simp only at e64
    simp only [F43,e60,oBs,dTr,Bool.not_true,cFf,cTt,z21,z28,z29,f41,d0,d1,bAs,nCt,hu',e40,c2,hw,e64,w1,e63,↓reduceIte]
   ·unfold shpd at hE0 ⊢
    rw [if_pos h2] at hE0 ⊢
    simp only at hE0 ⊢
    cases hh:hasB ls d.2.2.1 with
    | true =>
     rw [hh] at e40
     simp only [↓reduceIte]
     obtain ⟨dd,du,db,dt,uid,how,fl,ds,de,by',⟨⟩⟩:=d
     simp only at h1 h2 h8 f41 e40
     subst h2
     simp only [F43,e60,oBs,dTr,Bool.not_true,cFf,cTt,z21,z28,z29,f41,d0,d1,bAs,nCt,hu',e40]
     rfl
    | false =>
     rw [hh] at e40 hE0
     simp only [Bool.false_eq_true,↓reduceIte] at hE0 ⊢
     by_cases hfull:ls.length=6\/uv=4294967295
     ·rw [if_pos hfull]
      have c2:(decide ((6:Int)<=((ls.length:Nat):Int))||decide ((4294967295:Int)<=uv))=true:=by
       rw [Bool.or_eq_true,dTe,dTe];omega
      obtain ⟨dd,du,db,dt,uid,how,fl,ds,de,by',⟨⟩⟩:=d
      simp only at h1 h2 h8 f41 e40
      subst h2
      simp only [F43,e60,oBs,dTr,Bool.not_true,cFf,cTt,z21,z28,z29,f41,d0,d1,bAs,nCt,hu',e40,c2]
      rfl
     ·rw [if_neg hfull] at hE0
      exact absurd rfl hE0
 by_cases h7:d.1=7
 ·cases hh:hasB ls d.2.2.1 with
  | false =>
   have e77:F77 (((un,uv,ls,()),d,()),())=some (((un,uv,ls,()),0,9,()),()):=by
    obtain ⟨lb,e39,_,_,_,_,_⟩:=F39_eq (un,uv,ls,()) d.2.2.1 (by simp only;omega) g2
    simp only at e39
    rw [hh] at e39
    obtain ⟨dd,du,db,dt,uid,how,fl,ds,de,by',⟨⟩⟩:=d
    simp only at e39
    simp only [F77,e39,oBs,Bool.not_false,cTt]
   refine Both.of R P (r:=((un,uv,ls,()),0,9,())) (λhe=>absurd he (by simp)) (F48_rename m d _ _ hc h7 hg e77) ?_
   rw [hh] at e40
   obtain ⟨dd,du,db,dt,uid,how,fl,ds,de,by',⟨⟩⟩:=d
   simp only at h1 h2 h7 h8 f41 e40
   subst h7
   simp only [F43,e60,oBs,dTr,Bool.not_true,cFf,cTt,z71,z78,z79,z72,f41,d0,d1,bAs,nCt,hu',e40,Bool.not_false]
   rfl
  | true =>
   obtain ⟨r,e77,hr,e65⟩:=ren_both Fu d s3 hh ly lo p1 (by omega) hu
   refine Both.of R P (r:=r) (λhe=>?_) (F48_rename m d _ _ hc h7 hg e77) ?_
   ·obtain ⟨q1,q2⟩:=hr he
    exact ⟨q1,q2.trans hk⟩
   ·rw [hh] at e40
    obtain ⟨dd,du,db,dt,uid,how,fl,ds,de,by',⟨⟩⟩:=d
    simp only at h1 h2 h7 h8 f41 e40
    subst h7
    simp only [F43,e60,oBs,dTr,Bool.not_true,cFf,cTt,z71,z78,z79,z72,f41,d0,d1,bAs,nCt,hu',e40,e65]
 by_cases h3:d.1=3
 ·obtain ⟨lb,e1,e2,e3,e4,e5,e6⟩:=F76_eq (un,uv,ls,()) d (by simp only;omega) g2
  simp only at e2 e3 e4 e5 e6
  refine Both.of R P (r:=shpd (un,uv,ls,()) lb d) (λhe=>?_) (F48_shape m d _ lb hc (.inr h3) hg e1) ?_
  ·obtain ⟨q1,q2⟩:=drop_fine Fu d h2 e5 he
   exact ⟨q1,q2.trans hk⟩
  ·by_cases hE0:(shpd (un,uv,ls,()) lb d).2.2.1=0
   ·obtain ⟨-,hsh⟩:=drop_good Gu d h2 hE0
    simp only at hsh
    have hq:hasB ls d.2.2.1=true/\d.2.2.1≠inbx:=by
     unfold shpd at hE0
     rw [if_neg h2] at hE0
     simp only at hE0
     cases hh:hasB ls d.2.2.1 with
     | false=>rw [hh] at hE0;simp at hE0
     | true =>
      refine ⟨rfl,λe=>?_⟩
      rw [hh,e] at hE0
      simp at hE0
    obtain ⟨hh,hni⟩:=hq
    obtain ⟨k1,k2⟩:=e5 hh
    rw [hsh]
    rw [hh,but_at g2 k1 k2] at e40
    have hni':decide (d.2.2.1=([73,78,66,79,88]:Tx))=false:=dFf hni
    obtain ⟨dd,du,db,dt,uid,how,fl,ds,de,by',⟨⟩⟩:=d
    simp only at h1 h2 h3 h8 f41 e40 hni' e63
    subst h3
    simp only [F43,e60,oBs,dTr,Bool.not_true,cFf,cTt,z31,z38,z39,z32,z37,f41,d0,d1,bAs,nCt,hu',e40,hni',w1,e63,↓reduceIte]
   ·unfold shpd at hE0 ⊢
    rw [if_neg h2] at hE0 ⊢
    simp only at hE0 ⊢
    cases hh:hasB ls d.2.2.1 with
    | false =>
     rw [hh] at e40
     simp only [↓reduceIte]
     obtain ⟨dd,du,db,dt,uid,how,fl,ds,de,by',⟨⟩⟩:=d
     simp only at h1 h2 h3 h8 f41 e40
     subst h3
     simp only [F43,e60,oBs,dTr,Bool.not_true,cFf,cTt,z31,z38,z39,z32,f41,d0,d1,bAs,nCt,hu',e40,Bool.not_false]
     rfl
    | true =>
     rw [hh] at e40 hE0
     simp only [Bool.true_eq_false,↓reduceIte] at hE0 ⊢
     by_cases hin:d.2.2.1=inbx
     ·rw [if_pos hin]
      have hin':decide (d.2.2.1=([73,78,66,79,88]:Tx))=true:=dTt hin
      obtain ⟨dd,du,db,dt,uid,how,fl,ds,de,by',⟨⟩⟩:=d
      simp only at h1 h2 h3 h8 f41 e40 hin'
      subst h3
      simp only [F43,e60,oBs,dTr,Bool.not_true,cFf,cTt,z31,z38,z39,z32,z37,f41,d0,d1,bAs,nCt,hu',e40,hin']
      rfl
     ·rw [if_neg hin] at hE0
      exact absurd rfl hE0
 rcases F78_eq (un,uv,ls,()) d (by simp only;omega) Gu.len g2 with ⟨hh,e1⟩ | ⟨lb,l1,l2,e1⟩
 ·refine Both.of R P (r:=((un,uv,ls,()),0,9,())) (λhe=>absurd he (by simp)) (F48_box m d _ _ hc h1 h2 h3 h7 h8 h9 hg e1) ?_
  simp only at hh
  rw [hh] at e40
  obtain ⟨dd,du,db,dt,uid,how,fl,ds,de,by',⟨⟩⟩:=d
  simp only at h1 h2 h3 h7 h8 h9 f41 e40
  simp only [F43,e60,oBs,dTr,Bool.not_true,cFf,cTt,dFf h1,dFf h2,dFf h8,dFf h9,f41,d0,d1,bAs,nCt,hu',e40,Bool.not_false]
  rfl
 ·simp only at l1 l2
  refine Both.of R P (r:=boxd (un,uv,ls,()) lb d) (λhe=>?_) (F48_box m d _ _ hc h1 h2 h3 h7 h8 h9 hg e1) ?_
  ·obtain ⟨q1,q2⟩:=boxd_fine Fu l1 d he
   exact ⟨q1,q2.trans hk⟩
  ·have hh:hasB ls d.2.2.1=true:=by
    unfold hasB
    exact List.any_eq_true.2 ⟨_,getD_mem l1,dTt l2⟩
   rw [hh,but_at g2 l1 l2,one_at g2 l1 l2] at e40
   have Rb:Right (bxOf (ls.getD lb nob)):=Gu.each _ (getD_mem l1)
   have hbx:∃ q:(Int×Int×Box),q=((did (bxOf (ls.getD lb nob)) d).2.2,(did (bxOf (ls.getD lb nob)) d).2.1,(did (bxOf (ls.getD lb nob)) d).1):=⟨_,rfl⟩
   have hkept:=did_kept Rb d
   have key:∀ (B:Box) (n e:Int),did (bxOf (ls.getD lb nob)) d=(B,n,e) ->
     (∀ x,F43 ((true,d,()),((ly,()),()))=x<->(cond (!(decide (e=0))) (some (((0:Int),e,()),((ly,()),()))) (Option.bind (F64 ((ls.take lb++ls.drop (lb+1),B,()),())) λr33=>Option.bind (F13 (((un,uv,r33.2.1,()),()),())) λr34 =>
      cond (!(decide (r34.1=(0:Int)))) (some (((0:Int),(8:Int),()),((ly,()),()))) (Option.bind (F63 ((true,(lo:Int),((lo+1:Nat):Int),[(un,(uv,(r33.2.1,())))],()),((ly,()),()))) λr35=>some ((n,(0:Int),()),((r35.2.2.1,()),())))))=x):=by
    intro B n e hd x
    have h456:d.1=4\/d.1=5\/d.1=6:=by omega
    unfold did at hd
    obtain ⟨⟨bn,bv,bx,bl,⟨⟩⟩,hgb⟩:∃ b,ls.getD lb nob=b:=⟨_,rfl⟩
    rw [hgb] at hd e40
    unfold bxOf at hd e40
    simp only at hd e40
    obtain ⟨dd,du,db,dt,uid,how,fl,ds,de,by',⟨⟩⟩:=d
    simp only at h1 h2 h3 h7 h8 h9 f41 e40 hd h456
    rcases h456 with rfl | rfl | rfl
    ·have e66:=F66_eq (bn,bv,bx,bl,()) fl by'
     rw [if_pos rfl] at hd
     generalize add (bn,bv,bx,bl,()) fl by'=q at e66 hd
     obtain ⟨⟨qn,qv,qx,ql,⟨⟩⟩,qm,qe,⟨⟩⟩:=q
     cases hd
     simp only [F43,e60,oBs,dTr,Bool.not_true,cFf,cTt,z41,z48,z49,z42,z47,z43,f41,d0,d1,bAs,nCt,hu',e40,e66,w1]
    ·have e67:=F67_eq (bn,bv,bx,bl,()) uid how fl
     rw [if_neg (by decide),if_pos rfl] at hd
     generalize flag (bn,bv,bx,bl,()) uid how fl=q at e67 hd
     obtain ⟨⟨qn,qv,qx,ql,⟨⟩⟩,qe,⟨⟩⟩:=q
     cases hd
     simp only [F43,e60,oBs,dTr,Bool.not_true,cFf,cTt,z51,z58,z59,z52,z57,z53,z54,f41,d0,d1,bAs,nCt,hu',e40,e67,w1]
    ·have e68:=F68_eq (bn,bv,bx,bl,()) uid
     rw [if_neg (by decide),if_neg (by decide),if_pos rfl] at hd
     generalize cut (bn,bv,bx,bl,()) uid=q at e68 hd
     obtain ⟨⟨qn,qv,qx,ql,⟨⟩⟩,qe,⟨⟩⟩:=q
     cases hd
     simp only [F43,e60,oBs,dTr,Bool.not_true,cFf,cTt,z61,z68,z69,z62,z67,z63,z64,z65,f41,d0,d1,bAs,nCt,hu',e40,e68,w1]
   obtain ⟨⟨B,n,e⟩,hd⟩:∃ q,did (bxOf (ls.getD lb nob)) d=q:=⟨_,rfl⟩
   rw [key B n e hd]
   rw [hd] at hkept
   unfold boxd
   simp only
   rw [hd]
   simp only at hkept ⊢
   by_cases he:e=0
   ·subst he
    have K:=hkept rfl
    have hBn:(ofBx B).1=(ls.getD lb nob).1:=K.name
    have hB:B=bxOf (ofBx B):=by
     obtain ⟨qn,qv,qx,ql,⟨⟩⟩:=B
     rfl
    have e64:=F64_eq (ls.take lb++ls.drop (lb+1)) (ofBx B) (by rw [List.length_append,List.length_take,List.length_drop];omega)
    rw [<- hB,lay_set g2 l1 (ofBx B) hBn] at e64
    have hnames:∀ b∈ls.set lb (ofBx B),b.1.length<=24:=λb hb=>by
     rcases List.mem_or_eq_of_mem_set hb with h | rfl
     ·exact name_le (Fu.names b h)
     ·rw [hBn];exact name_le (Fu.names _ (getD_mem l1))
    simp only [ne_eq,not_true_eq_false,↓reduceIte,dTr,Bool.not_true,cFf,e64,oBs]
    by_cases hw:wth (ls.set lb (ofBx B))=true
    ·have hb0:boxd (un,uv,ls,()) lb d=((un,uv,ls.set lb (ofBx B),()),n,0,()):=by
      unfold boxd
      simp only
      rw [hd]
      simp [hw]
     obtain ⟨q1,q2⟩:=boxd_fine Fu l1 d (by rw [show usr (un,(uv,(ls,())))=(un,uv,ls,()) from rfl,hb0])
     rw [show usr (un,(uv,(ls,())))=(un,uv,ls,()) from rfl,hb0] at q1
     have e13:=F13_eq q1
     rw [if_pos hw]
     simp only [e13,oBs,dTr,Bool.not_true,cFf,e63,↓reduceIte]
    ·rw [if_neg hw]
     have hul:un.length<=24:=user_le Fu.user
     have e13:=F13_F44 (un,uv,ls.set lb (ofBx B),()) (by simp only;omega) λb hb=>Nat.le_trans (hnames b hb) (by decide)
     obtain ⟨e',e44,hF⟩:=F44_ex (un,uv,ls.set lb (ofBx B),()) (by simp only;omega)
     rw [e44] at e13
     have hne:e'≠0:=λh=>hw (hF h).room
     simp only [e13,oBs,dFf hne,Bool.not_false,cTt]
     rfl
   ·rw [if_pos he]
    rw [dFf he,if_neg he,if_neg he]
    rfl
abbrev Sa27:Type:=(Bool×Unit×(List Dd)×Int×Int×Unit)×((Unit×Unit)×Mp×(List Int)×Unit)
abbrev Sa24:Type:=(Bool×(List Dd)×(List Ur)×Unit×Int×Unit)×(((List Ur)×Unit)×(List Int)×Unit)
abbrev R24:Type:=((Bool×Unit×Unit)×(((List Ur)×Unit)×(List Int)×Unit))⊕((Bool×Unit×Int×Int×Unit)×(((List Ur)×Unit)×(List Int)×Unit))
def Ran (was:List Ur) (n:Nat) (r:R27) (s:R24):Prop :=
 (∃ m' ly' o,r=.inl ((true,(),()),(((),()),m',o,()))/\s=.inl ((true,(),()),((ly',()),o,()))/\RelS m' ly'/\o.length=n) \/
 (∃ (i:Nat) (e:Int) (m':Mp),e≠0/\i<n/\r=.inr ((true,(),(i:Int),e,()),(((),()),m',[],()))/\s=.inr ((true,(),(i:Int),e,()),((was,()),[],())))
theorem L27_L24 {m:Mp} {ly:List Ur} (R:RelS m ly) (l:List Dd) (hs:∀ d∈l,Small3 d) (hl:l.length<=12) :
  ∃ r s,L27_0 ((true,(),l,((l.length:Nat):Int),(0:Int),()),(((),()),m,([]:List Int),()))=some r/\L24_0 ((true,l,ly,(),(0:Int),()),((ly,()),([]:List Int),()))=some s/\Ran ly l.length r s:=by
 obtain ⟨r0,h0,-⟩:=L27_ex R.fine l (λd hd=>⟨Nat.le_trans (hs d hd).1 (by decide),Nat.le_trans (hs d hd).2.2 (by decide)⟩) hl
 have hstep:∀ (p:Sa27) (q:Sa24),(∃ (i:Nat) (m':Mp) (ly':List Ur) (o:List Int),i<=l.length/\o.length=i/\RelS m' ly'/\p=((true,(),l,((l.length:Nat):Int),(i:Int),()),(((),()),m',o,()))/\q=((true,l,ly,(),(i:Int),()),((ly',()),o,()))) ->
   (B27_0 p=none/\B24_0 q=none)\/(∃ p' q',B27_0 p=some (.inl p')/\B24_0 q=some (.inl q')/\(∃ (i:Nat) (m':Mp) (ly':List Ur) (o:List Int),i<=l.length/\o.length=i/\RelS m' ly'/\p'=((true,(),l,((l.length:Nat):Int),(i:Int),()),(((),()),m',o,()))/\q'=((true,l,ly,(),(i:Int),()),((ly',()),o,()))))\/(∃ r s,B27_0 p=some (.inr r)/\B24_0 q=some (.inr s)/\Ran ly l.length r s):=by
  rintro p q ⟨i,m',ly',o,hi,ho,R',rfl,rfl⟩
  right
  rcases Nat.lt_or_ge i l.length with h | h
  ·have d0:decide ((i:Int)<((l.length:Nat):Int))=true:=dTt (by omega)
   have d1:decide ((0:Int)<=(i:Int))=true:=dTt (by omega)
   have w1:w64 ((i:Int)+1)=((i+1:Nat):Int):=by rw [w64_id (by omega) (by omega)];rfl
   obtain ⟨d,hd⟩:∃ d,l[i]=d:=⟨_,rfl⟩
   have hg:∀ z,l.getD i z=d:=λz=>by rw [List.getD_eq_getElem?_getD,List.getElem?_eq_getElem h,hd];rfl
   obtain ⟨n,e,m2,n',ly2,h48,h43,hn,R2,hne⟩:=(deed_both R' d (hs d (by rw [<- hd];exact List.getElem_mem h))).ex
   obtain ⟨dd,du,db,dt,uid,how,fl,ds,de,by',⟨⟩⟩:=d
   by_cases he:e=0
   ·subst he
    obtain rfl:=hn rfl
    left
    have hb:bytesOK (o.length+[n'].length) 8=true:=bytes_ok (by simp only [List.length_singleton];omega)
    refine ⟨((true,(),l,((l.length:Nat):Int),((i+1:Nat):Int),()),(((),()),m2,o++[n'],())),((true,l,ly,(),((i+1:Nat):Int),()),((ly2,()),o++[n'],())),?_,?_,i+1,m2,ly2,o++[n'],h,by simp [ho],R2,rfl,rfl⟩
    ·simp only [B27_0,d0,d1,bAs,cTt,oBs,nCt,hg,h48,dTr,Bool.not_true,cFf,hb,w1]
    ·simp only [B24_0,d0,d1,bAs,cTt,oBs,nCt,hg,h43,dTr,Bool.not_true,cFf,hb,w1]
   ·right
    refine ⟨.inr ((true,(),(i:Int),e,()),(((),()),m2,[],())),.inr ((true,(),(i:Int),e,()),((ly,()),[],())),?_,?_,.inr ⟨i,e,m2,he,h,rfl,rfl⟩⟩
    ·simp only [B27_0,d0,d1,bAs,cTt,oBs,nCt,hg,h48,dFf he,Bool.not_false]
    ·simp only [B24_0,d0,d1,bAs,cTt,oBs,nCt,hg,h43,dFf he,Bool.not_false]
  ·have hi':i=l.length:=by omega
   subst hi'
   right
   refine ⟨.inl ((true,(),()),(((),()),m',o,())),.inl ((true,(),()),((ly',()),o,())),?_,?_,.inl ⟨m',ly',o,rfl,rfl,R',ho⟩⟩
   ·simp only [B27_0,Int.lt_irrefl,decide_false,cFf]
   ·simp only [B24_0,Int.lt_irrefl,decide_false,cFf]
 rcases loop_sim (f:=B27_0) (g:=B24_0) _ _ hstep ((true,(),l,((l.length:Nat):Int),(0:Int),()),(((),()),m,([]:List Int),())) ((true,l,ly,(),(0:Int),()),((ly,()),([]:List Int),())) ⟨0,m,ly,[],Nat.zero_le _,rfl,R,rfl,rfl⟩ with ⟨h1,-⟩ | h
 ·have:L27_0 ((true,(),l,((l.length:Nat):Int),(0:Int),()),(((),()),m,([]:List Int),()))=none:=h1
  rw [this] at h0
  cases h0
 ·exact h
structure Done (m:Mp) (ly:List Ur) (l:List Dd) (i e:Int) (m':Mp) (ly':List Ur) (o:List Int):Prop where
 tried:F25 ((true,l,()),(((),()),m,()))=some (((),i,e,()),(((),()),m,o,()))
 did:F10 ((true,l,()),(((),()),m,()))=some (((),i,e,()),(((),()),m',o,()))
 ref:F24 ((true,l,()),((ly,()),()))=some (((),i,e,()),((ly',()),o,()))
 rel:RelS m' ly'
 bad:e≠0->m'=m/\ly'=ly/\o=[]/\i<=((l.length:Nat):Int)
 good:e=0->o.length=l.length
theorem do_both {m:Mp} {ly:List Ur} (R:RelS m ly) (l:List Dd) (hs:∀ d∈l,Small3 d):∃ i e m' ly' o,Done m ly l i e m' ly' o:=by
 have key:∃ (i e:Int) (m1:Mp) (ly':List Ur) (o:List Int),F27 ((true,l,()),(((),()),m,()))=some (((),i,e,()),(((),()),m1,o,()))/\F24 ((true,l,()),((ly,()),()))=some (((),i,e,()),((ly',()),o,())) /\
   (e=0->RelS m1 ly'/\o.length=l.length)/\(e≠0->ly'=ly/\o=[]/\i<=((l.length:Nat):Int)):=by
  by_cases h0:l.length=0
  ·have c0:decide (((l.length:Nat):Int)=0)=true:=dTt (by omega)
   exact ⟨0,2,m,ly,[],by simp only [F27,Bool.not_true,cFf,c0,cTt],by simp only [F24,Bool.not_true,cFf,c0,cTt],nofun,λ_=>⟨rfl,rfl,by omega⟩⟩
  ·have c0:decide (((l.length:Nat):Int)=0)=false:=dFf (by omega)
   by_cases h1:12<l.length
   ·have c1:decide ((12:Int)<((l.length:Nat):Int))=true:=dTt (by omega)
    exact ⟨0,6,m,ly,[],by simp only [F27,Bool.not_true,cFf,c0,c1,cTt],by simp only [F24,Bool.not_true,cFf,c0,c1,cTt],nofun,λ_=>⟨rfl,rfl,by omega⟩⟩
   ·have c1:decide ((12:Int)<((l.length:Nat):Int))=false:=dFf (by omega)
    obtain ⟨r,s,e1,e2,hr⟩:=L27_L24 R l hs (by omega)
    rcases hr with ⟨m',ly',o,rfl,rfl,R',ho⟩ | ⟨i,e,m',he,hi,rfl,rfl⟩
    ·exact ⟨0,0,m',ly',o,by simp only [F27,Bool.not_true,cFf,c0,c1,e1,oBs],by simp only [F24,Bool.not_true,cFf,cTt,c0,c1,e2,oBs],λ_=>⟨R',ho⟩,λh=>absurd rfl h⟩
    ·exact ⟨i,e,m',ly,[],by simp only [F27,Bool.not_true,cFf,c0,c1,e1,oBs],by simp only [F24,Bool.not_true,cFf,cTt,c0,c1,e2,oBs],λh=>absurd h he,λ_=>⟨rfl,rfl,by omega⟩⟩
 obtain ⟨i,e,m1,ly',o,e27,e24,hg,hb⟩:=key
 have e25:F25 ((true,l,()),(((),()),m,()))=some (((),i,e,()),(((),()),m,o,())):=by
  simp only [F25,F22,Bool.not_true,cFf,cTt,oBs,e27]
 by_cases he:e=0
 ·subst he
  obtain ⟨R',ho⟩:=hg rfl
  exact ⟨i,0,m1,ly',o,e25,by simp only [F10,F22,Bool.not_true,cFf,cTt,oBs,e27,dTr],e24,R',λh=>absurd rfl h,λ_=>ho⟩
 ·obtain ⟨rfl,rfl,hi⟩:=hb he
  exact ⟨i,e,m,ly',[],e25,by simp only [F10,F22,Bool.not_true,cFf,cTt,oBs,e27,dFf he],e24,R,λ_=>⟨rfl,rfl,rfl,hi⟩,λh=>absurd h he⟩
theorem F36_self (a:List Int) (hl:a.length<=1000):F36 ((a,a,()),())=some (true,()):=by
 have hF:=FUEL_big
 have hL:L36_0 ((a,a,(0:Int),()),())=some (.inl ((),())):=by
  unfold L36_0
  refine (walk_list (f:=B36_0) (λ(_:Unit) i=>((a,a,(i:Int),()),())) a (λ_ _=>.inl ()) (λ_=>(.inl ((),()):(Unit×Unit)⊕((Unit×Unit)×Unit))) (λb i x hi hx=>?_) (λb=>?_) (by omega) (b:=())).trans ?_
  ·have d0:decide ((i:Int)<((a.length:Nat):Int))=true:=dTt (by omega)
   have d1:decide ((0:Int)<=(i:Int))=true:=dTt (by omega)
   have w1:w64 ((i:Int)+1)=((i+1:Nat):Int):=by rw [w64_id (by omega) (by omega)];rfl
   simp only [B36_0,d0,d1,bAs,cTt,dTr,Bool.not_true,cFf,w1]
  ·simp only [B36_0,Int.lt_irrefl,decide_false,cFf]
  ·rw [foldS_const]
 simp only [F36,dTr,Bool.not_true,cFf,hL,oBs]
theorem F38_eq (l:List Dd) (hl:l.length<=1050000) (hb:∀ d∈l,d.2.2.2.2.2.2.2.2.2.1.length<=1050000):F38 ((l,()),())=some (l,()):=by
 have hF:=FUEL_big
 have hL:L38_0 ((l,(),(0:Int),()),(([]:List Dd),()))=some (((),()),(l,())):=by
  unfold L38_0
  refine (walk_listI (f:=B38_0) (λ(o:List Dd) i=>((l,(),(i:Int),()),(o,()))) l (λa o=>.inl (o++[id a])) (λo=>(((),()),(o,()))) (λo i=>o.length=i)
   (λo i a hI hi ha=>?_) (λo _=>?_) (by omega) (b:=[]) rfl).trans ?_
  ·refine .inl ⟨_,rfl,by simp [hI],?_⟩
   have hm:a∈l:=by
    have:=ha (0,[],[],[],0,0,0,0,0,[],())
    rw [List.getD_eq_getElem?_getD,List.getElem?_eq_getElem hi] at this
    rw [<- this]
    exact List.getElem_mem hi
   have hba:=hb a hm
   have d0:decide ((i:Int)<((l.length:Nat):Int))=true:=dTt (by omega)
   have d1:decide ((0:Int)<=(i:Int))=true:=dTt (by omega)
   have w1:w64 ((i:Int)+1)=((i+1:Nat):Int):=by rw [w64_id (by omega) (by omega)];rfl
   have b1:bytesOK (0+a.2.2.2.2.2.2.2.2.2.1.length) 1=true:=bytes_ok (by omega)
   have b2:∀ x:Dd,bytesOK (o.length+[x].length) 120=true:=λx=>bytes_ok (by simp only [List.length_singleton];omega)
   have ha':=ha (0,[],[],[],0,0,0,0,0,[],())
   obtain ⟨dd,du,db,dt,uid,how,fl,ds,de,by',⟨⟩⟩:=a
   simp only at b1
   simp only [B38_0,d0,d1,bAs,cTt,oBs,nCt,ha',b1,b2,w1,List.nil_append,id]
  ·simp only [B38_0,Int.lt_irrefl,decide_false,cFf]
  ·rw [foldS_push id]
   simp
 simp only [F38,hL,oBs]
def dOpen:Dd:=(1,[117],[],[],0,0,0,0,0,[],())
def dPut:Dd:=(4,[117],[73,78,66,79,88],[],0,0,0,0,0,[120],())
theorem chk_open:F73 ((dOpen,()),())=some (0,()):=by kernel_rfl
theorem chk_put:F73 ((dPut,()),())=some (0,()):=by kernel_rfl
def m1:Mp:=[([117],([117],(1,([(inbx,(1,(1,([],()))))],()))))]
def m2:Mp:=[([117],([117],(1,([(inbx,(1,(2,([(1,(0,([120],())))],()))))],()))))]
theorem one_open:F48 ((true,dOpen,()),(((),()),[],()))=some ((1,0,()),(((),()),m1,())) :=
 (F48_open [] dOpen chk_open rfl).trans (by rfl)
theorem one_put:F48 ((true,dPut,()),(((),()),m1,()))=some ((1,0,()),(((),()),m2,())):=by
 have hR:∃ R,F78 ((newU [117],dPut,()),())=some (R,())/\R=(([117],1,[(inbx,(1,(2,([(1,(0,([120],())))],()))))],()),1,0,()):=by
  have G:=new_good [117]
  rcases F78_eq (newU [117]) dPut (Nat.le_trans G.few (by decide)) G.len G.rise with ⟨h,_⟩ | ⟨lo,h1,_,h2⟩
  ·exact absurd h (by decide)
  ·have:lo=0:=by simpa [newU] using h1
   subst this
   exact ⟨_,h2,by rfl⟩
 obtain ⟨R,h1,h2⟩:=hR
 subst h2
 exact (F48_box m1 dPut ([117],(1,([(inbx,(1,(1,([],()))))],()))) _ chk_put (by decide) (by decide) (by decide) (by decide) (by decide) (by decide) rfl h1).trans (by rfl)
theorem run_two:L27_0 ((true,(),[dOpen,dPut],(2:Int),(0:Int),()),(((),()),([]:Mp),([]:List Int),()))=some (.inl ((true,(),()),(((),()),m2,[1,1],())):R9):=by
 have o1:=one_open
 have o2:=one_put
 unfold dOpen at o1
 unfold dPut at o2
 have s0:B27_0 ((true,(),[dOpen,dPut],(2:Int),(0:Int),()),(((),()),([]:Mp),([]:List Int),()))=some (.inl ((true,(),[dOpen,dPut],(2:Int),(1:Int),()),(((),()),m1,([1]:List Int),()))):=by
  have hw:w64 (0+1)=1:=by rfl
  simp only [B27_0,dOpen,dPut,List.length_cons,List.length_nil,show decide ((0:Int)<2)=true from rfl,show decide ((0:Int)<=0)=true from rfl,show decide ((0:Int)<((0+1+1:Nat):Int))=true from rfl,Bool.and_true,cTt,oBs,Int.toNat_zero,List.getD_cons_zero,o1,dTr,Bool.not_true,cFf,List.nil_append,hw]
  rfl
 have s1:B27_0 ((true,(),[dOpen,dPut],(2:Int),(1:Int),()),(((),()),m1,([1]:List Int),()))=some (.inl ((true,(),[dOpen,dPut],(2:Int),(2:Int),()),(((),()),m2,([1,1]:List Int),()))):=by
  have hw:w64 (1+1)=2:=by rfl
  simp only [B27_0,dOpen,dPut,List.length_cons,List.length_nil,show decide ((1:Int)<2)=true from rfl,show decide ((0:Int)<=1)=true from rfl,show decide ((1:Int)<((0+1+1:Nat):Int))=true from rfl,Bool.and_true,cTt,oBs,show (1:Int).toNat=1 from rfl,List.getD_cons_succ,List.getD_cons_zero,o2,dTr,Bool.not_true,cFf,hw]
  rfl
 have s2:B27_0 ((true,(),[dOpen,dPut],(2:Int),(2:Int),()),(((),()),m2,([1,1]:List Int),()))=some (.inr (.inl ((true,(),()),(((),()),m2,[1,1],())):R9)):=by
  simp only [B27_0,show decide ((2:Int)<2)=false from rfl,cFf]
 show iter B27_0 FUEL _=_
 rw [show FUEL=9223372036854775805+1+1+1 from rfl]
 simp only [iter,s0,s1,s2]
theorem two:F10 ((true,[dOpen,dPut],()),(((),()),([]:Mp),()))=some (((),0,0,()),(((),()),m2,[1,1],())):=by
 have h1:decide (((2:Nat):Int)=0)=false:=rfl
 have h2:decide ((12:Int)<((2:Nat):Int))=false:=rfl
 have h:=run_two
 simp only [F10,F22,F27,Bool.not_true,cFf,cTt,oBs,List.length_cons,List.length_nil,show ((0+1+1:Nat):Int)=2 from rfl,show decide ((2:Int)=0)=false from rfl,show decide ((12:Int)<2)=false from rfl,h,dTr]
theorem box_two:F16 ((true,[117],[73,78,66,79,88],()),(((),()),m2,()))=some (((inbx,1,2,[(1,(0,([120],())))],()),(0:Int),()),(((),()),m2,())):=by
  refine (F16_eq m2 [117] [73,78,66,79,88] λu hu=>?_).trans (by rfl)
  have:u=([117],(1,([(inbx,(1,(2,([(1,(0,([120],())))],()))))],()))):=by
    have h:mapGet .str m2 [117]=some ([117],(1,([(inbx,(1,(2,([(1,(0,([120],())))],()))))],()))):=rfl
    rw [h] at hu
    exact (Option.some.inj hu).symm
  subst this
  exact {
    few:=by decide
    rise:=by simp [usr]
    each:=λb hb=>by
      simp only [usr,List.mem_singleton] at hb
      subst hb
      exact ⟨by decide,by decide,by decide,by decide,by decide⟩
    valid:=by decide
    below:=λb hb=>by
      simp only [usr,List.mem_singleton] at hb
      subst hb
      decide }
theorem live_true:F14 ((),())=some (true,()):=by
 have h5:=two
 have h6:=box_two
 unfold dOpen dPut at h5
 have h12:F36 (([1,1],[1,1],()),())=some (true,()):=by kernel_rfl
 simp only [F14,F9,oBs,List.isEmpty_cons,Bool.not_false,cTt,h5,h6,dTr,h12]
 rfl
theorem F19_self (b:Box) (hl:b.2.2.2.1.length<=1000):F19 ((b,b,()),())=some (true,()):=by
 obtain ⟨nm,v,n,ls,⟨⟩⟩:=b
 change ls.length<=1000 at hl
 have hF:=FUEL_big
 have hL:L19_0 (((),(),(0:Int),()),((nm,v,n,ls,()),(nm,v,n,ls,()),()))=some (.inl ((),())):=by
  unfold L19_0
  refine (walk_list (f:=B19_0) (λ(_:Unit) i=>(((),(),(i:Int),()),((nm,v,n,ls,()),(nm,v,n,ls,()),()))) ls (λ_ _=>.inl ()) (λ_=>(.inl ((),()):(Unit×Unit)⊕((Unit×Unit)×Unit))) (λb i x hi hx=>?_) (λb=>?_) (by omega) (b:=())).trans ?_
  ·have d0:decide ((i:Int)<((ls.length:Nat):Int))=true:=dTt (by omega)
   have d1:decide ((0:Int)<=(i:Int))=true:=dTt (by omega)
   have w1:w64 ((i:Int)+1)=((i+1:Nat):Int):=by rw [w64_id (by omega) (by omega)];rfl
   simp only [B19_0,d0,d1,bAs,cTt,dTr,Bool.not_true,Bool.or_self,Bool.or_false,cFf,w1]
  ·simp only [B19_0,Int.lt_irrefl,decide_false,cFf]
  ·rw [foldS_const]
 simp only [F19,dTr,Bool.not_true,Bool.or_self,cFf,hL,oBs]
theorem F20_self (u:Usr) (hl:u.2.2.1.length<=1000) (hb:∀ b∈u.2.2.1,b.2.2.2.1.length<=1000):F20 ((u,u,()),())=some (true,()):=by
 obtain ⟨un,uv,ls,⟨⟩⟩:=u
 change ls.length<=1000 at hl
 change ∀ b∈ls,b.2.2.2.1.length<=1000 at hb
 have hF:=FUEL_big
 have hL:L20_0 (((),(),(0:Int),()),((un,uv,ls,()),(un,uv,ls,()),()))=some (.inl ((),())):=by
  unfold L20_0
  refine (walk_list (f:=B20_0) (λ(_:Unit) i=>(((),(),(i:Int),()),((un,uv,ls,()),(un,uv,ls,()),()))) ls (λ_ _=>.inl ()) (λ_=>(.inl ((),()):(Unit×Unit)⊕((Unit×Unit)×Unit))) (λb i x hi hx=>?_) (λb=>?_) (by omega) (b:=())).trans ?_
  ·have d0:decide ((i:Int)<((ls.length:Nat):Int))=true:=dTt (by omega)
   have d1:decide ((0:Int)<=(i:Int))=true:=dTt (by omega)
   have w1:w64 ((i:Int)+1)=((i+1:Nat):Int):=by rw [w64_id (by omega) (by omega)];rfl
   have hm:x∈ls:=by
    have:=hx nob
    rw [getDb_eq hi] at this
    rw [<- this]
    exact List.getElem_mem hi
   have e19:=F19_self (bxOf x) (hb x hm)
   unfold bxOf at e19
   simp only [B20_0,d0,d1,bAs,cTt,nCt,hx nob,e19,oBs,Bool.not_true,cFf,w1]
  ·simp only [B20_0,Int.lt_irrefl,decide_false,cFf]
  ·rw [foldS_const]
 simp only [F20,dTr,Bool.not_true,Bool.or_self,cFf,hL,oBs]
theorem Good.same {u:Usr} (G:Good u):F20 ((u,u,()),())=some (true,()):=F20_self u (Nat.le_trans G.few (by decide)) λb hb=>Nat.le_trans (G.len b hb) (by decide)
theorem rise_eqT:∀ {a b:List Tx},a.Perm b->a.Pairwise (λa b=>a<b)->b.Pairwise (λa b=>a<b)->a=b
 | [],b,h,_,_=>h.nil_eq
 | x::t,[],h,_,_=>by have:=h.length_eq;simp at this
 | x::t,y::s,h,h1,h2=>by
  obtain ⟨k1,k2⟩:=List.pairwise_cons.1 h1
  obtain ⟨k3,k4⟩:=List.pairwise_cons.1 h2
  have e:x=y:=by
   rcases List.mem_cons.1 (h.mem_iff.1 (List.mem_cons_self ..)) with e | hx
   ·exact e
   ·rcases List.mem_cons.1 (h.symm.mem_iff.1 (List.mem_cons_self ..)) with e | hy
    ·exact e.symm
    ·exact absurd (List.lt_trans (k3 x hx) (k1 y hy)) (List.lt_irrefl _)
  subst e
  rw [rise_eqT (List.Perm.cons_inv h) k2 k4]
theorem RelS.names {m:Mp} {ly:List Ur} (R:RelS m ly):(ly.map (·.1)).Pairwise (λa b=>a<b):=by
 rw [List.pairwise_map]
 exact R.rise
theorem nodup_of {l:List Tx} (h:l.Pairwise (λa b=>a<b)):l.Nodup:=h.imp λh e=>absurd (e ▸ h) (List.lt_irrefl _)
theorem RelS.keys {m:Mp} {ly:List Ur} (R:RelS m ly):keysL m=ly.map (·.1):=by
 refine rise_eqT ?_ (keys_rise R.fine.nodup) R.names
 refine (List.perm_ext_iff_of_nodup (nodup_of (keys_rise R.fine.nodup)) (nodup_of R.names)).2 λk=>?_
 rw [(keys_perm m).mem_iff]
 have hs:=R.same k
 constructor
 ·intro h
  obtain ⟨p,hp,rfl⟩:=List.mem_map.1 h
  rw [mapGet_mem KE_str R.fine.nodup (k:=p.1) (x:=p.2) hp] at hs
  have:=List.mem_of_find?_eq_some hs.symm
  have h2:=List.find?_some hs.symm
  exact List.mem_map.2 ⟨_,this,of_decide_eq_true h2⟩
 ·intro h
  obtain ⟨u,hu,rfl⟩:=List.mem_map.1 h
  cases hg:mapGet .str m u.1 with
  | some x=>exact List.mem_map.2 ⟨_,mapGet_some KE_str hg,rfl⟩
  | none =>
   rw [hg] at hs
   have:=List.find?_eq_none.1 hs.symm u hu
   simp at this
theorem RelS.at {m:Mp} {ly:List Ur} (R:RelS m ly) {i:Nat} (h:i<ly.length):mapGet .str m ly[i].1=some ly[i]:=by
 rw [R.same]
 have hp:=R.rise
 have e:ly=ly.take i++ly[i]::ly.drop (i+1):=by rw [<- List.drop_eq_getElem_cons h,List.take_append_drop]
 have h1:∀ u∈ly.take i,u.1<ly[i].1:=λu hu=>by
  obtain ⟨j,hj,rfl⟩:=List.mem_take_iff_getElem.1 hu
  exact List.pairwise_iff_getElem.1 hp j i (by omega) h (by omega)
 obtain ⟨x,hx⟩:∃ x,ly[i]=x:=⟨_,rfl⟩
 rw [hx] at e h1 ⊢
 rw [e,List.find?_append,fnd_lt h1,Option.none_or,List.find?_cons,dTt rfl]
theorem F21_true {m:Mp} {ly:List Ur} (R:RelS m ly):F21 ((true,true,()),(((),()),m,(ly,()),()))=some (true,(((),()),m,(ly,()),())):=by
 have hF:=FUEL_big
 have hf:=R.few
 have e11:=F11_eq R.fine
 rw [R.keys] at e11
 have hL:L21_0 ((true,true,(),(0:Int),()),(((),()),m,(ly,()),ly.map (·.1),()))=some (.inl ((true,true,()),(((),()),m,(ly,()),()))):=by
  unfold L21_0
  refine (walk_list (f:=B21_0) (λ(_:Unit) i=>((true,true,(),(i:Int),()),(((),()),m,(ly,()),ly.map (·.1),()))) ly (λ_ _=>.inl ()) (λ_=>.inl ((true,true,()),(((),()),m,(ly,()),()))) (λb i x hi hx=>?_) (λb=>?_) (by omega) (b:=())).trans ?_
  ·have d0:decide ((i:Int)<((ly.length:Nat):Int))=true:=dTt (by omega)
   have d1:decide ((0:Int)<=(i:Int))=true:=dTt (by omega)
   have w1:w64 ((i:Int)+1)=((i+1:Nat):Int):=by rw [w64_id (by omega) (by omega)];rfl
   have hx':=hx nou
   rw [getDu_eq hi] at hx'
   have hm:=R.at hi
   rw [hx'] at hm
   have G:=(R.fine.fine _ x hm).1.good
   have e12:=F12_eq hm G
   have e20:=G.same
   unfold usr at e20
   have hk:(ly.map (·.1)).getD i []=x.1:=by
    rw [List.getD_eq_getElem?_getD,List.getElem?_map,List.getElem?_eq_getElem hi,hx']
    rfl
   simp only [B21_0,List.length_map,d0,d1,bAs,cTt,nCt,hk,e12,oBs,hx nou,Bool.true_or,dTr,Bool.not_true,Bool.or_self,Bool.not_false,e20,cFf,w1]
  ·simp only [B21_0,List.length_map,Int.lt_irrefl,decide_false,cFf]
  ·rw [foldS_const]
 simp only [F21,e11,oBs,cTt,List.length_map,dTr,Bool.not_true,cFf,hL]
structure SmL (l:List Dd):Prop where
 len:l.length<=1050000
 each:∀ d∈l,Small3 d
 byts:∀ d∈l,d.2.2.2.2.2.2.2.2.2.1.length<=1050000
theorem fit_ok {l:List Dd} (S:SmL l):fitB (.sl (.pair (.int .i64) (.pair .str (.pair .str (.pair .str (.pair (.int .i64) (.pair (.int .i64) (.pair .u8 (.pair (.int .i64) (.pair (.int .i64) (.pair (.sl (.rg .u8)) .unit))))))))))) l=true:=by
 have h1:=S.len
 show (decide (List.length l<=4611686018427387904)&&List.all l _)=true
 rw [dTt (show List.length l<=4611686018427387904 by omega),Bool.true_and,List.all_eq_true]
 intro d hd
 have h2:=S.byts d hd
 obtain ⟨dd,du,db,dt,uid,how,fl,ds,de,by',⟨⟩⟩:=d
 simp only at h2
 have h3:decide (List.length by'<=4611686018427387904)=true:=dTt (by omega)
 have h4:List.all by' (fitB (.rg .u8))=true:=List.all_eq_true.2 λ_ _=>rfl
 show (true&&(true&&(true&&(true&&(true&&(true&&(true&&(true&&(true&&((decide (List.length by'<=4611686018427387904)&&List.all by' (fitB (.rg .u8)))&&true))))))))))=true
 rw [h3,h4]
 rfl
theorem L15_1_eq {m:Mp} {ly:List Ur} (R:RelS m ly) (all:List (List Dd)) (hs:∀ l∈all,SmL l) (i:Nat) (hi:i<all.length) :
  ∃ m' ly',L15_1 ((all,(),(),(i:Int),()),(((),()),(ly,()),m,()))=some (.inl ((all,(),(),(i:Int),()),(((),()),(ly',()),m',())))/\RelS m' ly':=by
 obtain ⟨l,hl⟩:∃ l,all[i]=l:=⟨_,rfl⟩
 have hg:∀ z,all.getD i z=l:=λz=>by rw [List.getD_eq_getElem?_getD,List.getElem?_eq_getElem hi,hl];rfl
 have S:=hs l (by rw [<- hl];exact List.getElem_mem hi)
 obtain ⟨a,e,m',ly',o,D⟩:=do_both R l S.each
 have e38:=F38_eq l S.len S.byts
 have d0:decide ((i:Int)<((all.length:Nat):Int))=true:=dTt (by omega)
 have d1:decide ((0:Int)<=(i:Int))=true:=dTt (by omega)
 have hol:o.length<=1000:=by
  by_cases he:e=0
  ·subst he
   have hd:=D.did
   rw [D.good rfl]
   rcases Nat.lt_or_ge 12 l.length with h | h
   ·exfalso
    have c0:decide (((l.length:Nat):Int)=0)=false:=dFf (by omega)
    have c1:decide ((12:Int)<((l.length:Nat):Int))=true:=dTt (by omega)
    have hr:=D.ref
    simp only [F24,Bool.not_true,cFf,c0,c1,cTt,oSi,Prod.mk.injEq] at hr
    omega
   ·omega
  ·rw [(D.bad he).2.2.1];simp
 have e36:=F36_self o hol
 have ef:=fit_ok S
 refine ⟨m',ly',?_,D.rel⟩
 simp only [L15_1,M15_1,B15_1,d0,d1,bAs,cTt,nCt,hg,e38,oBs,D.tried,D.did,D.ref,e36,dTr,Bool.not_true,Bool.or_self,cFf,Bool.not_false,ef]
theorem F15_eq (all:List (List Dd)) (hs:∀ l∈all,SmL l):∃ m ly,F15 ((all,()),())=some (((),(),true,()),(((),()),(ly,()),m,()))/\RelS m ly:=by
 have hF:=FUEL_big
 obtain ⟨r,hr,m,ly,rfl,R⟩:∃ r,L15_0 ((all,(),(),(0:Int),()),(((),()),(([]:List Ur),()),([]:Mp),()))=some r/\∃ m ly,r=.inl (((),(),()),(((),()),(ly,()),m,()))/\RelS m ly:=by
  unfold L15_0
  refine loop_ind (f:=B15_0) (λp=>∃ (i:Nat) (m:Mp) (ly:List Ur),i<=60/\RelS m ly/\p=((all,(),(),(i:Int),()),(((),()),(ly,()),m,()))) (λp=>60-p.1.2.2.2.1.toNat) _ ?_ ⟨0,[],[],by omega,RelS.nil,rfl⟩ (by simp only;omega)
  rintro p ⟨i,m,ly,hi,R,rfl⟩
  by_cases h:i<all.length/\i<60
  ·have d0:decide ((i:Int)<((all.length:Nat):Int))=true:=dTt (by omega)
   have d2:decide ((i:Int)<60)=true:=dTt (by omega)
   have w1:w64 ((i:Int)+1)=((i+1:Nat):Int):=by rw [w64_id (by omega) (by omega)];rfl
   obtain ⟨m',ly',e,R'⟩:=L15_1_eq R all hs i h.1
   left
   refine ⟨((all,(),(),((i+1:Nat):Int),()),(((),()),(ly',()),m',())),by simp only [B15_0,d0,d2,bAs,cTt,e,oBs,w1],⟨i+1,m',ly',by omega,R',rfl⟩,?_⟩
   simp only;omega
  ·right
   have d0:(decide ((i:Int)<((all.length:Nat):Int))&&decide ((i:Int)<60))=false:=by
    rw [Bool.and_eq_false_iff,decide_eq_false_iff_not,decide_eq_false_iff_not]
    omega
   exact ⟨_,by simp only [B15_0,d0,cFf],m,ly,rfl,R⟩
 refine ⟨m,ly,?_,R⟩
 have e21:=F21_true R
 simp only [F15,F9,F37,oBs,hr,e21]

def putn:Nat->Nat->List UInt8
 | 0,_=>[]
 | n+1,v=>UInt8.ofNat (v/256^n % 256)::putn n v
theorem putn_len:∀ (n v:Nat),(putn n v).length=n
 | 0,_=>rfl
 | n+1,v=>by rw [putn,List.length_cons,putn_len n v]
theorem putn_fold:∀ (n v a:Nat),(putn n v).foldl numG a=a*256^n+v % 256^n
 | 0,v,a=>by simp [putn,Nat.mod_one]
 | n+1,v,a=>by
  rw [putn,List.foldl_cons,putn_fold n v]
  unfold numG
  have e:(UInt8.ofNat (v/256^n % 256)).toNat=v/256^n % 256:=by
   rw [UInt8.toNat_ofNat']
   omega
  rw [e,Nat.mod_pow_succ,Nat.add_mul,Nat.pow_succ,Nat.mul_assoc,Nat.mul_comm 256 (256^n),Nat.mul_comm (v/256^n % 256) (256^n)]
  omega
theorem nm1_putn (n v:Nat) (r:List UInt8) (h:v<256^n):nm1 n (putn n v++r)=some (v,r):=by
 have hl:=putn_len n v
 unfold nm1
 rw [if_neg (by rw [List.length_append,hl];omega),List.take_left' hl,List.drop_left' hl]
 unfold numv
 rw [putn_fold,Nat.zero_mul,Nat.zero_add,Nat.mod_eq_of_lt h]
theorem txt1_put (w:Nat) (s r:List UInt8) (h:s.length<256^w):txt1 w (putn w s.length++(s++r))=some (s,r):=by
 unfold txt1
 rw [nm1_putn w _ _ h,oBs]
 unfold tak
 simp only
 rw [if_neg (by rw [List.length_append];omega),List.take_left' rfl,List.drop_left' rfl]
theorem u8of_nat (x:Nat):u8of (x:Int)=UInt8.ofNat (x % 256):=by
 unfold u8of
 congr 1
theorem u8of_self (c:UInt8):u8of ((c.toNat:Nat):Int)=c:=by
 rw [u8of_nat]
 have:=c.toNat_lt
 rw [Nat.mod_eq_of_lt (show c.toNat<256 from this),UInt8.ofNat_toNat]
theorem L45_iter (v:Nat):∀ (j k:Nat) (b:List UInt8),j<k->j<=4->b.length+j<=1000000->iter B45_0 k (((),(v:Int),(j:Int)-1,()),(b,()))=some (((),()),(b++putn j v,()))
 | _,0,_,h,_,_=>absurd h (Nat.not_lt_zero _)
 | 0,k+1,b,_,_,_=>by
  rw [iter]
  have:decide ((0:Int)<=((0:Nat):Int)-1)=false:=rfl
  simp only [B45_0,this,cFf,putn,List.append_nil]
 | j+1,k+1,b,h,h4,hb=>by
  rw [iter]
  have e0:((j+1:Nat):Int)-1=(j:Int):=by omega
  have d0:decide ((0:Int)<=(j:Int))=true:=dTt (by omega)
  have w8:w64 (8*(j:Int))=((8*j:Nat):Int):=by rw [w64_id (by omega) (by omega)];omega
  have d1:decide ((0:Int)<=((8*j:Nat):Int))=true:=dTt (by omega)
  have w1:w64 ((j:Int)-1)=(j:Int)-1:=w64_id (by omega) (by omega)
  have hm:min (8*j) (IntKind.bits .i64)=8*j:=by
   have:IntKind.bits .i64=64:=rfl
   rw [this];omega
  have hp:(2:Int)^(8*j)=((256^j:Nat):Int):=by
   rw [Int.pow_mul]
   rfl
  have hd:Int.fdiv (v:Int) ((256^j:Nat):Int)=((v/256^j:Nat):Int):=by
   rw [Int.fdiv_eq_ediv_of_nonneg _ (Int.natCast_nonneg _)]
   rfl
  have b1:∀ c:UInt8,bytesOK (b.length+[c].length) 1=true:=λc=>bytes_ok (by simp only [List.length_singleton];omega)
  have ih:=L45_iter v j k (b++[UInt8.ofNat (v/256^j % 256)]) (by omega) (by omega) (by rw [List.length_append,List.length_singleton];omega)
  simp only [e0,B45_0,d0,cTt,w8,d1,nCt,hm,hp,hd,u8of_nat,b1,oBs,w1,ih,List.append_assoc,List.singleton_append,putn]
theorem F45_eq (v n:Nat) (b:List UInt8) (hn:n<=4) (hb:b.length<=900000):F45 (((),(v:Int),(n:Int),()),(b,()))=some ((),(b++putn n v,())):=by
 have hF:=FUEL_big
 have w1:w64 ((n:Int)-1)=(n:Int)-1:=w64_id (by omega) (by omega)
 have hL:L45_0 (((),(v:Int),(n:Int)-1,()),(b,()))=some (((),()),(b++putn n v,())):=L45_iter v n FUEL b (by omega) hn (by omega)
 simp only [F45,w1,hL,oBs]
theorem F46_eq (s b:List UInt8) (hs:s.length<=1000) (hb:b.length<=900000):F46 (((),s,()),(b,()))=some ((),(b++(putn 1 s.length++s),())):=by
 have e:=F45_eq s.length 1 b (by omega) hb
 rw [show ((1:Nat):Int)=1 from rfl] at e
 have b1:bytesOK ((b++putn 1 s.length).length+s.length) 1=true:=bytes_ok (by rw [List.length_append,putn_len];omega)
 simp only [F46,e,oBs,b1,cTt,List.append_assoc]
theorem F47_eq (s b:List UInt8) (hs:s.length<=1000) (hb:b.length<=900000):F47 (((),s,()),(b,()))=some ((),(b++(putn 2 s.length++s),())):=by
 have e:=F45_eq s.length 2 b (by omega) hb
 rw [show ((2:Nat):Int)=2 from rfl] at e
 have b1:bytesOK ((b++putn 2 s.length).length+s.length) 1=true:=bytes_ok (by rw [List.length_append,putn_len];omega)
 simp only [F47,e,oBs,b1,cTt,List.append_assoc]
def putL (l:Ltr):List UInt8:=putn 4 l.1.toNat++(putn 1 l.2.1.toNat++(putn 2 l.2.2.1.length++l.2.2.1))
def putB (b:Bx):List UInt8:=putn 1 b.1.length++(b.1++(putn 4 b.2.1.toNat++(putn 4 b.2.2.1.toNat++(putn 1 b.2.2.2.1.length++b.2.2.2.1.flatMap putL))))
def putU (u:Usr):List UInt8:=putn 1 u.1.length++(u.1++(putn 4 u.2.1.toNat++(putn 1 u.2.2.1.length++u.2.2.1.flatMap putB)))
structure PutL (l:Ltr):Prop where
 uid:0<=l.1/\l.1<4294967296
 len:l.2.2.1.length<=600
theorem putL_len {l:Ltr} (h:PutL l):(putL l).length<=607:=by
 have:=h.len
 unfold putL
 simp only [List.length_append,putn_len]
 omega
theorem flat_len {α:Type} (g:α->List UInt8) (B:Nat):∀ (ls:List α),(∀ l∈ls,(g l).length<=B)->(ls.flatMap g).length<=B*ls.length
 | [],_=>by simp
 | a::t,h=>by
  have h1:=h a (List.mem_cons_self ..)
  have h2:=flat_len g B t λl hl=>h l (List.mem_cons_of_mem _ hl)
  rw [List.flatMap_cons,List.length_append,List.length_cons,Nat.mul_add,Nat.mul_one]
  omega
theorem ltr1_put {l:Ltr} (h:PutL l) (r:List UInt8):ltr1 (putL l++r)=some (l,r):=by
 obtain ⟨uid,f,bs,⟨⟩⟩:=l
 have h1:=h.uid
 have h2:=h.len
 simp only at h1 h2
 have hf:=f.toNat_lt
 unfold putL ltr1
 simp only [List.append_assoc]
 rw [nm1_putn 4 _ _ (by have:(256:Nat)^4=4294967296:=rfl;omega),oBs]
 simp only
 rw [nm1_putn 1 _ _ (by omega),oBs]
 simp only
 rw [txt1_put 2 _ _ (by have:(256:Nat)^2=65536:=rfl;omega),oBs]
 simp only [u8of_self]
 rw [show ((uid.toNat:Nat):Int)=uid by omega]
theorem ltrs_put:∀ (ls:List Ltr) (r:List UInt8),(∀ l∈ls,PutL l)->ltrs ls.length (ls.flatMap putL++r)=some (ls,r)
 | [],_,_=>rfl
 | a::t,r,h=>by
  rw [List.length_cons,List.flatMap_cons,List.append_assoc,ltrs,ltr1_put (h a (List.mem_cons_self ..)),oBs]
  simp only
  rw [ltrs_put t r λl hl=>h l (List.mem_cons_of_mem _ hl)]
  rfl
structure PutB (b:Bx):Prop where
 name:b.1.length<=24
 valid:0<=b.2.1/\b.2.1<4294967296
 next:0<=b.2.2.1/\b.2.2.1<4294967296
 few:b.2.2.2.1.length<=32
 each:∀ l∈b.2.2.2.1,PutL l
theorem putB_len {b:Bx} (h:PutB b):(putB b).length<=20000:=by
 have h1:=h.name
 have h2:=h.few
 have h3:=flat_len putL 607 b.2.2.2.1 λl hl=>putL_len (h.each l hl)
 unfold putB
 simp only [List.length_append,putn_len]
 omega
theorem box1_put {b:Bx} (h:PutB b) (r:List UInt8):box1 (putB b++r)=some (b,r):=by
 obtain ⟨bn,bv,bx,bl,⟨⟩⟩:=b
 have h1:=h.name
 have h2:=h.valid
 have h3:=h.next
 have h4:=h.few
 have h5:=h.each
 simp only at h1 h2 h3 h4 h5
 have p4:(256:Nat)^4=4294967296:=rfl
 unfold putB box1
 simp only [List.append_assoc]
 rw [txt1_put 1 _ _ (by omega),oBs]
 simp only
 rw [nm1_putn 4 _ _ (by omega),oBs]
 simp only
 rw [nm1_putn 4 _ _ (by omega),oBs]
 simp only
 rw [nm1_putn 1 _ _ (by omega),oBs]
 simp only
 rw [ltrs_put _ _ h5,oBs]
 simp only
 rw [show ((bv.toNat:Nat):Int)=bv by omega,show ((bx.toNat:Nat):Int)=bx by omega]
theorem boxs_put:∀ (ls:List Bx) (r:List UInt8),(∀ l∈ls,PutB l)->boxs1 ls.length (ls.flatMap putB++r)=some (ls,r)
 | [],_,_=>rfl
 | a::t,r,h=>by
  rw [List.length_cons,List.flatMap_cons,List.append_assoc,boxs1,box1_put (h a (List.mem_cons_self ..)),oBs]
  simp only
  rw [boxs_put t r λl hl=>h l (List.mem_cons_of_mem _ hl)]
  rfl
theorem Right.put {b:Bx} (R:Right (bxOf b)) (hn:rightB b.1=true):PutB b where
 name:=name_le hn
 valid:=by have:=R.valid;unfold bxOf at this;simp only at this;omega
 next:=by have:=R.next;unfold bxOf at this;simp only at this;omega
 few:=R.few
 each:=λl hl=>by
  obtain ⟨h1,h2,h3,h4⟩:=R.each l hl
  have:=R.next
  exact ⟨by omega,h4⟩
theorem usr1_put {u:Usr} (G:Fine u):usr1 (putU u)=some (u,[]):=by
 obtain ⟨un,uv,ls,⟨⟩⟩:=u
 have h1:=user_le G.user
 have h2:=G.good.valid
 have h3:=G.good.few
 have h4:∀ b∈ls,PutB b:=λb hb=>(G.good.each b hb).put (G.names b hb)
 simp only at h1 h2 h3
 have p4:(256:Nat)^4=4294967296:=rfl
 have hb:=boxs_put ls [] h4
 rw [List.append_nil] at hb
 unfold putU usr1
 rw [txt1_put 1 _ _ (by simp only;omega),oBs]
 simp only
 rw [nm1_putn 4 _ _ (by omega),oBs]
 simp only
 rw [nm1_putn 1 _ _ (by omega),oBs]
 simp only
 rw [hb,oBs]
 simp only
 rw [show ((uv.toNat:Nat):Int)=uv by omega]
theorem F44_fine {u:Usr} (G:Fine u):F44 ((u,()),())=some (0,()):=by
 rw [<- F13_F44 u (Nat.le_trans (user_le G.user) (by decide)) λb hb=>Nat.le_trans (name_le (G.names b hb)) (by decide)]
 exact F13_eq G
theorem took_put {u:Usr} (G:Fine u):took (putU u)=(u,0):=by
 unfold took
 rw [usr1_put G]
 simp only [List.length_nil,↓reduceIte,F44_fine G]
theorem foldS_flat {α τ:Type} (g:α->List UInt8) (fin:List UInt8->τ):∀ (l:List α) (b:List UInt8),foldS (λa b=>(.inl (b++g a):List UInt8⊕τ)) fin b l=fin (b++l.flatMap g)
 | [],b=>by simp [foldS]
 | a::t,b=>by
  simp only [foldS]
  rw [foldS_flat g fin t]
  simp
theorem L26_1_eq (bs:List Bx) (n0 i0:Int) (ls:List Ltr) (b:List UInt8) (hl:ls.length<=32) (hp:∀ l∈ls,PutL l) (hb:b.length<=400000) :
  L26_1 (((),bs,n0,i0,ls,((ls.length:Nat):Int),(0:Int),()),(b,()))=some (((),bs,n0,i0,()),(b++ls.flatMap putL,())):=by
 have hF:=FUEL_big
 unfold L26_1
 refine (walk_listI (f:=B26_1) (λ(o:List UInt8) i=>(((),bs,n0,i0,ls,((ls.length:Nat):Int),(i:Int),()),(o,()))) ls (λa o=>.inl (o++putL a)) (λo=>(((),bs,n0,i0,()),(o,()))) (λo i=>o.length<=400000+607*i)
  (λo i a hI hi ha=>?_) (λo _=>?_) (by omega) (b:=b) (by omega)).trans ?_
 ·have hm:a∈ls:=by
   have:=ha nol
   rw [List.getD_eq_getElem?_getD,List.getElem?_eq_getElem hi] at this
   rw [<- this]
   exact List.getElem_mem hi
  have hpa:=hp a hm
  have hlen:=putL_len hpa
  refine .inl ⟨_,rfl,by rw [List.length_append];omega,?_⟩
  obtain ⟨uid,f,p,⟨⟩⟩:=a
  have h1:=hpa.uid
  have h2:=hpa.len
  simp only at h1 h2
  have d0:decide ((i:Int)<((ls.length:Nat):Int))=true:=dTt (by omega)
  have d1:decide ((0:Int)<=(i:Int))=true:=dTt (by omega)
  have w1:w64 ((i:Int)+1)=((i+1:Nat):Int):=by rw [w64_id (by omega) (by omega)];rfl
  have e1:=F45_eq uid.toNat 4 o (by omega) (by omega)
  rw [show ((uid.toNat:Nat):Int)=uid by omega,show ((4:Nat):Int)=4 from rfl] at e1
  have e2:=F45_eq f.toNat 1 (o++putn 4 uid.toNat) (by omega) (by rw [List.length_append,putn_len];omega)
  rw [show ((1:Nat):Int)=1 from rfl] at e2
  have e3:=F47_eq p ((o++putn 4 uid.toNat)++putn 1 f.toNat) (by omega) (by rw [List.length_append,List.length_append,putn_len,putn_len];omega)
  have ha':=ha (0,0,[],())
  simp only [List.append_assoc] at e2 e3
  simp only [B26_1,d0,d1,bAs,cTt,nCt,ha',oBs,e1,e2,e3,dTr,agr_self,w1,putL]
 ·simp only [B26_1,Int.lt_irrefl,decide_false,cFf]
 ·rw [foldS_flat]
theorem L26_0_eq (bs:List Bx) (b:List UInt8) (hl:bs.length<=6) (hp:∀ x∈bs,PutB x) (hb:b.length<=1000) :
  L26_0 (((),bs,((bs.length:Nat):Int),(0:Int),()),(b,()))=some (((),()),(b++bs.flatMap putB,())):=by
 have hF:=FUEL_big
 unfold L26_0
 refine (walk_listI (f:=B26_0) (λ(o:List UInt8) i=>(((),bs,((bs.length:Nat):Int),(i:Int),()),(o,()))) bs (λa o=>.inl (o++putB a)) (λo=>(((),()),(o,()))) (λo i=>o.length<=1000+20000*i)
  (λo i a hI hi ha=>?_) (λo _=>?_) (by omega) (b:=b) (by omega)).trans ?_
 ·have hm:a∈bs:=by
   have:=ha nob
   rw [getDb_eq hi] at this
   rw [<- this]
   exact List.getElem_mem hi
  have hpa:=hp a hm
  have hlen:=putB_len hpa
  refine .inl ⟨_,rfl,by rw [List.length_append];omega,?_⟩
  obtain ⟨bn,bv,bx,bl,⟨⟩⟩:=a
  have h1:=hpa.name
  have h2:=hpa.valid
  have h3:=hpa.next
  have h4:=hpa.few
  have h5:=hpa.each
  simp only at h1 h2 h3 h4 h5
  have d0:decide ((i:Int)<((bs.length:Nat):Int))=true:=dTt (by omega)
  have d1:decide ((0:Int)<=(i:Int))=true:=dTt (by omega)
  have w1:w64 ((i:Int)+1)=((i+1:Nat):Int):=by rw [w64_id (by omega) (by omega)];rfl
  have e1:=F46_eq bn o (by omega) (by omega)
  have e2:=F45_eq bv.toNat 4 (o++(putn 1 bn.length++bn)) (by omega) (by simp only [List.length_append,putn_len];omega)
  rw [show ((bv.toNat:Nat):Int)=bv by omega,show ((4:Nat):Int)=4 from rfl] at e2
  have e3:=F45_eq bx.toNat 4 ((o++(putn 1 bn.length++bn))++putn 4 bv.toNat) (by omega) (by simp only [List.length_append,putn_len];omega)
  rw [show ((bx.toNat:Nat):Int)=bx by omega,show ((4:Nat):Int)=4 from rfl] at e3
  have e4:=F45_eq bl.length 1 (((o++(putn 1 bn.length++bn))++putn 4 bv.toNat)++putn 4 bx.toNat) (by omega) (by simp only [List.length_append,putn_len];omega)
  rw [show ((1:Nat):Int)=1 from rfl] at e4
  have e5:=L26_1_eq bs ((bs.length:Nat):Int) (i:Int) bl ((((o++(putn 1 bn.length++bn))++putn 4 bv.toNat)++putn 4 bx.toNat)++putn 1 bl.length) h4 h5 (by simp only [List.length_append,putn_len];omega)
  have ha':=ha nob
  simp only [List.append_assoc] at e2 e3 e4 e5
  simp only [B26_0,d0,d1,bAs,cTt,nCt,ha',oBs,e1,e2,e3,e4,e5,dTr,agr_self,w1,putB]
 ·simp only [B26_0,Int.lt_irrefl,decide_false,cFf]
 ·rw [foldS_flat]
theorem F26_eq {u:Usr} (G:Fine u):F26 ((u,()),())=some (((),0,()),(putU u,())):=by
 have e44:=F44_fine G
 obtain ⟨un,uv,ls,⟨⟩⟩:=u
 have h1:=user_le G.user
 have h2:=G.good.valid
 have h3:=G.good.few
 have h4:∀ b∈ls,PutB b:=λb hb=>(G.good.each b hb).put (G.names b hb)
 simp only at h1 h2 h3
 have e1:=F46_eq un [] (by omega) (by simp)
 rw [List.nil_append] at e1
 have e2:=F45_eq uv.toNat 4 (putn 1 un.length++un) (by omega) (by simp only [List.length_append,putn_len];omega)
 rw [show ((uv.toNat:Nat):Int)=uv by omega,show ((4:Nat):Int)=4 from rfl] at e2
 have e3:=F45_eq ls.length 1 ((putn 1 un.length++un)++putn 4 uv.toNat) (by omega) (by simp only [List.length_append,putn_len];omega)
 rw [show ((1:Nat):Int)=1 from rfl] at e3
 have e4:=L26_0_eq ls (((putn 1 un.length++un)++putn 4 uv.toNat)++putn 1 ls.length) h3 h4 (by simp only [List.length_append,putn_len];omega)
 simp only [List.append_assoc] at e2 e3 e4
 simp only [F26,e44,oBs,dTr,Bool.not_true,cFf,cTt,e1,e2,e3,e4,agr_self,putU]
abbrev DdT:Ty:=.pair (.int .i64) (.pair .str (.pair .str (.pair .str (.pair (.int .i64) (.pair (.int .i64) (.pair .u8 (.pair (.int .i64) (.pair (.int .i64) (.pair (.sl .u8) .unit)))))))))
theorem sum_mem {α:Type} (f:α->Nat):∀ (l:List α) (x:α),x∈l->f x<=(l.map f).sum
 | [],_,h=>by cases h
 | a::t,x,h=>by
  rw [List.map_cons,List.sum_cons]
  rcases List.mem_cons.1 h with rfl | h
  ·omega
  ·have:=sum_mem f t x h;omega
theorem len_sum {α:Type} (f:α->Nat):∀ (l:List α),(∀ x,1<=f x)->l.length<=(l.map f).sum
 | [],_=>Nat.zero_le _
 | a::t,h=>by
  rw [List.map_cons,List.sum_cons,List.length_cons]
  have:=len_sum f t h
  have:=h a
  omega
theorem dd_size (d:Dd):1+((d.2.1.length+1)+((d.2.2.1.length+1)+((d.2.2.2.1.length+1)+(1+(1+(1+(1+(1+(d.2.2.2.2.2.2.2.2.2.1.length+0)))))))))=sizD DdT d:=by
 obtain ⟨dd,du,db,dt,uid,how,fl,ds,de,by',⟨⟩⟩:=d
 show _=1+((du.length+1)+((db.length+1)+((dt.length+1)+(1+(1+(1+(1+(1+(sizD (.sl .u8) by'+0)))))))))
 rw [sizD_u8]
theorem sm_list (l:List Dd) (hz:sizD (.sl DdT) l<=1048576):SmL l where
 len:=by
  have h4:sizD (.sl DdT) l=(List.map (sizD DdT) l).sum:=rfl
  have:=len_sum (sizD DdT) l λd=>by have:=dd_size d;omega
  omega
 each:=λd hd=>by
  have h3:=sum_mem (sizD DdT) l d hd
  have h4:sizD (.sl DdT) l=(List.map (sizD DdT) l).sum:=rfl
  have h5:=dd_size d
  exact ⟨by omega,by omega,by omega⟩
 byts:=λd hd=>by
  have h3:=sum_mem (sizD DdT) l d hd
  have h4:sizD (.sl DdT) l=(List.map (sizD DdT) l).sum:=rfl
  have h5:=dd_size d
  omega
theorem sm_all (all:List (List Dd)) (hz:sizD (.sl (.sl DdT)) all<=1048576):∀ l∈all,SmL l:=λl hl =>
 sm_list l (by
  have h1:(List.map (sizD (.sl DdT)) all).sum<=1048576:=hz
  have h2:=sum_mem (sizD (.sl DdT)) all l hl
  omega)
theorem F12_none {m:Mp} {name:Tx} (hm:mapGet .str m name=none):F12 ((true,name,()),(((),()),m,()))=some ((([],0,(),()),9,()),(((),()),m,[],())):=by
 simp only [F12,Bool.not_true,cFf,cTt,oBs,hm,Option.isSome_none,Bool.not_false]
theorem chkd_leave {user:Tx} (h:rightU user=true):F73 (((9,user,[],[],0,0,0,1,2,[],()),()),())=some (0,()):=by
 have hl:=user_le h
 rw [<- F60_F73 _ (Nat.le_trans hl (by decide)) (Nat.zero_le _) (Nat.zero_le _)]
 have e:=F32_eq user (Nat.le_trans hl (by decide))
 rw [h] at e
 simp [F60,e]
theorem chkd_put {user:Tx} (h:rightU user=true):F73 (((4,user,inbx,[],0,0,0,0,0,[],()),()),())=some (0,()):=by
 have hl:=user_le h
 rw [<- F60_F73 _ (Nat.le_trans hl (by decide)) (by show inbx.length<=1100000;decide) (Nat.zero_le _)]
 have e:=F32_eq user (Nat.le_trans hl (by decide))
 have e2:=F33_eq inbx (by decide)
 rw [h] at e
 rw [inbx_right] at e2
 simp [F60,e,e2]
theorem chkd_enter {u:Usr} (G:Fine u):F73 (((8,u.1,[],[],0,0,0,0,2,putU u,()),()),())=some (0,()):=by
 have hl:=user_le G.user
 rw [<- F60_F73 _ (Nat.le_trans hl (by decide)) (Nat.zero_le _) (Nat.zero_le _)]
 have e:=F32_eq u.1 (Nat.le_trans hl (by decide))
 have e2:=F62_took (putU u)
 rw [took_put G] at e2
 rw [G.user] at e
 simp [F60,e,e2]
theorem law8 (all:List (List Dd)) (user:Tx) (hs:∀ l∈all,SmL l):F8 ((all,user,()),())=some (true,()):=by
 obtain ⟨m,ly,e15,R⟩:=F15_eq all hs
 cases hm:mapGet .str m user with
 | none =>
  have e12:=F12_none hm
  simp only [F8,e15,oBs,Bool.not_true,cFf,e12,z90,Bool.not_false,cTt,live_true,List.length_nil,show decide (((0:Nat):Int)=0)=true from rfl,bAs]
 | some u =>
  obtain ⟨Fu,hk⟩:=R.fine.fine user u hm
  have G:=Fu.good
  have e12:=F12_eq hm G
  have e26:=F26_eq Fu
  have hU:rightU user=true:=by
   have:=Fu.user
   unfold usr at this
   simp only at this
   rwa [hk] at this
  obtain ⟨un,uv,ls,⟨⟩⟩:=u
  simp only at hk
  subst hk
  have c9:=chkd_leave hU
  have h9:=F48_leave m (9,un,[],[],0,0,0,1,2,[],()) _ c9 rfl hm
  have e9:=F10_one _ _ _ _ _ h9
  simp only [↓reduceIte] at e9
  have c8:=chkd_enter Fu
  have t8:=F75_took (putU (usr (un,(uv,(ls,())))))
  rw [took_put Fu] at t8
  have h8:=F48_enter [] (8,un,[],[],0,0,0,0,2,putU (usr (un,(uv,(ls,())))),()) _ c8 rfl t8
  have hcm:come [] (usr (un,(uv,(ls,()))))=(0,mapSet .str [] un (un,(uv,(ls,())))):=by
   unfold come usr
   simp only
   rw [if_neg (by simp [mapGet]),if_neg (by simp)]
  rw [hcm] at h8
  have e8:=F10_one _ _ _ _ _ h8
  simp only [↓reduceIte] at e8
  have g8:mapGet .str (mapSet .str ([]:Mp) un (un,(uv,(ls,())))) un=some (un,(uv,(ls,()))):=by
   rw [mapGet_set KE_str (l:=([]:Mp)) List.nodup_nil,(KE_str un un).2 rfl]
   rfl
  have e12b:=F12_eq g8 G
  have g9:mapGet .str (mapDel .str m un) un=none:=by
   rw [mapGet_del KE_str R.fine.nodup,(KE_str un un).2 rfl]
   rfl
  have e12c:=F12_none g9
  have c4:=chkd_put hU
  have h4:=F48_gone (mapDel .str m un) (4,un,inbx,[],0,0,0,0,0,[],()) c4 (by simp) (by simp) g9
  have e4:=F10_one _ _ _ _ _ h4
  simp only [show ¬ (9:Int)=0 by omega,↓reduceIte] at e4
  have e20:=G.same
  unfold usr at e20 e26 e8
  unfold inbx at e4
  simp only at e12 e12b e12c e20 e26 e8 e9 e4
  simp only [F8,e15,oBs,Bool.not_true,cFf,e12,dTr,e26,F9,e9,e8,e12b,e12c,e4,live_true,bAs,cTt,e20]
theorem law8' (all:List (List Dd)) (user:Tx) (hz:sizD (.sl (.sl DdT)) all<=1048576):F8 ((all,user,()),())=some (true,()):=law8 all user (sm_all all hz)
end Go.So
namespace Go.So
open Go Go.Ev Go.Proofs
set_option maxRecDepth 100000
theorem maxl (w:World) (h:w.ShapedOpen Tryz.prog):∃ m,w.cell? ⟨0,0,none⟩=some (.int .i64 m) :=
 Go.Proofs.cell_of_shapedOpen_int (zero:=#[.int .i64 0]) (t:=3) h (of_decide_eq_true (by kernel_rfl)) (by kernel_rfl) rfl (by kernel_rfl) (by kernel_rfl) Tryz.underlying3
end Go.So
