/- Texts that the last one leans on, 10. -/
import Derived.Test.YtipfcejaekfogaaGreatDoorTI
namespace Go.So
open Go Go.Ev
set_option maxRecDepth 100000
def pfx (s p:Tx):Bool:=decide (p.length<=s.length)&&decide (s.take p.length=p)
theorem F153_eq (s p:Tx):F153 ((s,p,()),())=some (pfx s p,()):=by
 have e:decide (((p.length:Nat):Int)<=((s.length:Nat):Int))=decide (p.length<=s.length):=by rw [decide_eq_decide];omega
 have c1:decide ((0:Int)<=((p.length:Nat):Int))=true:=zm (by omega);unfold pfx;simp only [F153,e,c1,Bool.true_and,yF]
 cases decide (p.length<=s.length) <;> simp
def uQ (nm frm:Tx):Bool:=decide (nm=frm)||pfx nm (frm++[47])
def vC (nm frm tt:Tx):Tx:=if uQ nm frm=true then tt++nm.drop frm.length else nm
theorem pfx_le {s p:Tx} (h:pfx s p=true):p.length<=s.length:=by
 unfold pfx at h;simp only [yR,xX] at h;exact h.1
theorem F102_eq (nm frm tt:Tx) (h1:nm.length<=1100000) (h2:frm.length<=1100000) (h3:tt.length<=1100000):F102 ((nm,frm,tt,()),())=some ((vC nm frm tt,uQ nm frm,()),()):=by
 have f1:fits (frm.length+([47]:List UInt8).length)=true:=zm (by simp<;>omega);have e135:F135 ((nm,frm++[47],()),())=some (pfx nm (frm++[47]),()):=by simp only [F135,F153_eq,zE]
 have c1:decide ((0:Int)<=((frm.length:Nat):Int))=true:=zm (by omega);have f2:fits (tt.length+(nm.drop frm.length).length)=true:=zm (by rw [sG];omega);have t1:(nm.drop frm.length).take (nm.length-frm.length)=nm.drop frm.length:=List.take_of_length_le (by rw [sG];omega);unfold vC uQ;by_cases he:nm=frm
 ·subst he;simp only [F102,f1,Bool.true_or,zI,zd,yM,zK,c1,Int.le_refl,yW,yF,t1,f2,↓reduceIte]
 ·cases hp:pfx nm (frm++[47]) with
  | false =>
   simp only [F102,f1,Bool.true_or,zI,yv he,xf,e135,zE,hp,zK,Bool.or_self,Bool.false_eq_true,↓reduceIte]
  | true =>
   have hl:=pfx_le hp;rw [xe] at hl;have c2:decide (((frm.length:Nat):Int)<=((nm.length:Nat):Int))=true:=zm (by omega);simp only [F102,f1,Bool.true_or,zI,yv he,xf,e135,zE,hp,c1,c2,Int.le_refl,zd,yW,yF,t1,f2,Bool.or_true,↓reduceIte]
def ren (frm tt:Tx) (b:Bx):Bx:=(vC b.1 frm tt,(b.2.1,(b.2.2.1,(b.2.2.2.1,()))))
abbrev R77:Type:=((Unit×Unit×Int×Unit)×((Tx×Int×Unit×Unit)×((Unit×Unit×Unit×Unit)×(List Bx×(List Bx×Unit)))))⊕((Unit×Unit×Unit×Unit)×((Tx×Int×Unit×Unit)×(List Bx×Unit)))
theorem L77_0_ex (un:Tx) (uv:Int) (d:Dd) (ls xs:List Bx) (hl:ls.length<=6) (hn:∀ b∈ls,zq b.1=true) (h2:d.2.2.1.length<=1100000) (h3:d.2.2.2.1.length<=1100000) :
  ∃ r:R77,L77_0 (((),(),(),(0:Int),(),((ls.length:Nat):Int),(0:Int),()),((un,uv,(),()),d,((),(),(),()),ls,xs,()))=some r /\
   match r with
   | .inl q=>∃ n,q=(((),(),n,()),((un,uv,(),()),((),(),(),()),ls.map (ren d.2.2.1 d.2.2.2.1),xs,()))/\∀ b∈ls,zq (vC b.1 d.2.2.1 d.2.2.2.1)=true
   | .inr q=>∃ cur,q=(((),(),(),()),((un,uv,(),()),cur,())):=by
 obtain ⟨dd,du,db,dt,uid,how,fl,ds,de,by',⟨⟩⟩:=d;simp only at h2 h3 ⊢;have hF:=zR;unfold L77_0
 refine z6 (f:=u4) (λp=>∃ (i:Nat) (n:Int),i<=ls.length/\(∀ k,k<i->zq (vC (ls.getD k yE).1 db dt)=true) /\
   p=(((),(),(),n,(),((ls.length:Nat):Int),(i:Int),()),((un,uv,(),()),(dd,du,db,dt,uid,how,fl,ds,de,by',()),((),(),(),()),(ls.take i).map (ren db dt)++ls.drop i,xs,())))
  (λp=>ls.length-p.1.2.2.2.2.2.2.1.toNat) _ ?_ ⟨0,0,Nat.zero_le _,λk hk=>absurd hk (Nat.not_lt_zero _),by simp⟩ (by simp only;omega)
 rintro p ⟨i,n,hi,hk,rfl⟩;rcases Nat.lt_or_ge i ls.length with h | h
 ·have d0:decide ((i:Int)<((ls.length:Nat):Int))=true:=zm (by omega);have d1:decide ((0:Int)<=(i:Int))=true:=zm (by omega);have w1:zh ((i:Int)+1)=((i+1:Nat):Int):=by rw [zV (by omega) (by omega)];rfl
  have hlen:((ls.take i).map (ren db dt)++ls.drop i).length=ls.length:=by simp;omega
  have hti:((ls.take i).map (ren db dt)).length=i:=by simp;omega
  obtain ⟨⟨bn,bv,bx,bl,⟨⟩⟩,hb⟩:∃ b,ls[i]=b:=⟨_,rfl⟩
  have hcur:(ls.take i).map (ren db dt)++ls.drop i=(ls.take i).map (ren db dt)++((bn,(bv,(bx,(bl,()))))::ls.drop (i+1)):=by
   rw [List.drop_eq_getElem_cons h,hb]
  have hg:((ls.take i).map (ren db dt)++ls.drop i).getD i (([]:List UInt8),((0:Int),((0:Int),(([]:(List yJ)),()))))=(bn,(bv,(bx,(bl,())))):=by
   rw [hcur,wQ,List.getElem?_append_right (by omega),hti,Nat.sub_self];rfl
  have hset:∀ x:Bx,((ls.take i).map (ren db dt)++ls.drop i).set i x=(ls.take i).map (ren db dt)++(x::ls.drop (i+1)):=λx=>by
   rw [hcur]
   have:=sU ((ls.take i).map (ren db dt)) (ls.drop (i+1)) (bn,(bv,(bx,(bl,())))) x
   rw [hti] at this;exact this
  have hnext:(ls.take i).map (ren db dt)++((vC bn db dt,(bv,(bx,(bl,()))))::ls.drop (i+1))=(ls.take (i+1)).map (ren db dt)++ls.drop (i+1):=by
   rw [List.take_succ_eq_append_getElem h,List.map_append,List.map_cons,hb];simp [ren]
  have hbn:bn.length<=24:=by
   have:=um (hn ls[i] (List.getElem_mem h))
   rw [hb] at this;exact this
  have e102:=F102_eq bn db dt (by omega) h2 h3;have e70:=F70_eq (vC bn db dt);generalize hC:(ls.take i).map (ren db dt)++ls.drop i=C at hlen hg hset
  cases hr:zq (vC bn db dt) with
  | false =>
   rw [hr] at e70;right;refine ⟨.inr (((),(),(),()),((un,uv,(),()),C,())),?_,_,rfl⟩
   cases hm:uQ bn db with
   | false =>
    rw [hm] at e102;simp only [u4,d0,d1,hlen,yW,zI,zK,yF,zE,hg,e102,e70,xf]
   | true =>
    rw [hm] at e102;simp only [u4,d0,d1,hlen,yW,zI,yF,zE,hg,e102,e70,xf]
  | true =>
   rw [hr] at e70;left
   have hgood:∀ k,k<i+1->zq (vC (ls.getD k yE).1 db dt)=true:=λk hk'=>by
    rcases Nat.lt_or_ge k i with h' | h'
    ·exact hk k h'
    ·obtain rfl:k=i:=by omega
     rw [wQ,List.getElem?_eq_getElem h,hb];exact hr
   cases hm:uQ bn db with
   | false =>
    rw [hm] at e102;refine ⟨_,by simp only [u4,d0,d1,hlen,yW,zI,zK,yF,zE,hg,e102,e70,yM,hset,hnext,w1];rfl,⟨i+1,_,h,hgood,rfl⟩,?_⟩;simp only;omega
   | true =>
    rw [hm] at e102;refine ⟨_,by simp only [u4,d0,d1,hlen,yW,zI,zK,yF,zE,hg,e102,e70,yM,hset,hnext,w1];rfl,⟨i+1,_,h,hgood,rfl⟩,?_⟩;simp only;omega
 ·have hi':i=ls.length:=by omega
  subst hi';right;refine ⟨.inl (((),(),n,()),((un,uv,(),()),((),(),(),()),ls.map (ren db dt),xs,())),?_,n,rfl,λb hb=>?_⟩
  ·simp only [u4,Int.lt_irrefl,xA,zK,List.take_length,List.drop_length,List.append_nil]
  ·obtain ⟨k,hk',rfl⟩:=List.getElem_of_mem hb
   have:=hk k hk'
   rw [wQ,List.getElem?_eq_getElem hk'] at this;exact this
theorem L77_1_ex (un:Tx) (uv n:Int) (ls xs:List Bx) (h1:1<=ls.length) (hl:ls.length<=6) :
  ∃ r:R77,L77_1 (((),(),n,((ls.length-1:Nat):Int),(0:Int),()),((un,uv,(),()),((),(),(),()),ls,xs,()))=some r /\
   match r with
   | .inl q=>q=(((),(),n,()),((un,uv,(),()),((),(),(),()),ls,xs,()))/\∀ k,k+1<ls.length->(ls.getD k yE).1≠(ls.getD (k+1) yE).1
   | .inr q=>q=(((),(),(),()),((un,uv,(),()),ls,())):=by
 have hF:=zR;unfold L77_1
 refine z6 (f:=B77_1) (λp=>∃ (i:Nat),i<=ls.length-1/\(∀ k,k<i->(ls.getD k yE).1≠(ls.getD (k+1) yE).1) /\
   p=(((),(),n,((ls.length-1:Nat):Int),(i:Int),()),((un,uv,(),()),((),(),(),()),ls,xs,())))
  (λp=>ls.length-p.1.2.2.2.2.1.toNat) _ ?_ ⟨0,Nat.zero_le _,λk hk=>absurd hk (Nat.not_lt_zero _),rfl⟩ (by simp only;omega)
 rintro p ⟨i,hi,hk,rfl⟩;rcases Nat.lt_or_ge i (ls.length-1) with h | h
 ·have d0:decide ((i:Int)<((ls.length-1:Nat):Int))=true:=zm (by omega);have d1:decide ((0:Int)<=(i:Int))=true:=zm (by omega);have d2:decide ((i:Int)<((ls.length:Nat):Int))=true:=zm (by omega);have w1:zh ((i:Int)+1)=((i+1:Nat):Int):=by rw [zV (by omega) (by omega)];rfl
  have d3:decide ((0:Int)<=((i+1:Nat):Int))=true:=zm (by omega);have d4:decide (((i+1:Nat):Int)<((ls.length:Nat):Int))=true:=zm (by omega);by_cases he:(ls.getD i yE).1=(ls.getD (i+1) yE).1
  ·right;refine ⟨.inr (((),(),(),()),((un,uv,(),()),ls,())),?_,rfl⟩;simp only [B77_1,d0,d1,d2,w1,d3,d4,yW,zI,yF,he,zd]
  ·left;refine ⟨_,by simp only [B77_1,d0,d1,d2,w1,d3,d4,yW,zI,yF,he,xA,zK],⟨i+1,h,λk hk'=>?_,rfl⟩,?_⟩
   ·rcases Nat.lt_or_ge k i with h' | h'
    ·exact hk k h'
    ·obtain rfl:k=i:=by omega
     exact he
   ·simp only;omega
 ·have hi':i=ls.length-1:=by omega
  subst hi';right;refine ⟨.inl (((),(),n,()),((un,uv,(),()),((),(),(),()),ls,xs,())),?_,rfl,λk hk'=>hk k (by omega)⟩;simp only [B77_1,Int.lt_irrefl,xA,zK]
theorem inbx_stays {frm:Tx} (tt:Tx) (h:frm≠inbx):vC inbx frm tt=inbx:=by
 have hp:pfx inbx (frm++[47])=false:=by
  cases hp:pfx inbx (frm++[47]) with
  | false=>rfl
  | true =>
   exfalso;unfold pfx at hp;simp only [yR,xX] at hp
   have:(47:UInt8)∈inbx:=by
    refine List.mem_of_mem_take (i:=(frm++[47]).length) ?_;rw [hp.2];simp
   exact absurd this (by decide)
 unfold vC uQ;rw [hp,yv (λh'=>h h'.symm)];rfl
theorem sum_perm {a b:List Bx} (h:a.Perm b):tot a=tot b/\bts a=bts b:=⟨(h.map _).sum_nat,(h.map _).sum_nat⟩
theorem ren_sums (f t:Tx) (ls:List Bx):tot (ls.map (ren f t))=tot ls/\bts (ls.map (ren f t))=bts ls:=by
 unfold tot bts;rw [List.map_map,List.map_map];exact ⟨rfl,rfl⟩
theorem F77_ex {u:ww} (G:Fine u) (d:Dd) (h3:d.2.2.2.1.length<=1100000):∃ R:ww×Int×Int×Unit,F77 ((u,d,()),())=some (R,())/\(R.2.2.1=0->Fine R.1/\R.1.1=u.1):=by
  obtain ⟨un,uv,ls,⟨⟩⟩:=u;obtain ⟨lo,e39,_,_,_,h5,_⟩:=F39_eq (un,uv,ls,()) d.2.2.1 (Nat.le_trans G.good.few (by omega)) G.good.rise;obtain ⟨dd,du,db,dt,uid,how,fl,ds,de,by',⟨⟩⟩:=d;have g1:=G.good.few;have g3:=G.good.each;have g4:=G.good.below;have g5:=G.names;have g6:=G.inb;have g7:=G.room;simp only at h3 e39 h5 g1 g3 g4 g5 g6 g7
  cases hh:yX ls db with
  | false =>
    rw [hh] at e39;exact ⟨((un,uv,ls,()),0,9,()),by simp only [F77,e39,zE,xf,zI],λh=>by simp at h⟩
  | true =>
    rw [hh] at e39;obtain ⟨k1,k2⟩:=h5 hh;by_cases hin:db=inbx
    . refine ⟨((un,uv,ls,()),0,13,()),?_,λh=>by simp at h⟩;have:decide (db=([73,78,66,79,88]:List UInt8))=true:=zm hin;simp only [F77,e39,zE,yM,zK,this,zI]
    . have hdi:decide (db=([73,78,66,79,88]:List UInt8))=false:=yv hin;have e30:=F30_eq ls (by omega)
      have hdb:db.length<=24:=by
        have:=um (g5 _ (wo k1))
        rw [k2] at this;exact this
      obtain ⟨r,e0,hr⟩:=L77_0_ex un uv (dd,du,db,dt,uid,how,fl,ds,de,by',()) ls [] g1 g5 (by simp only;omega) h3
      cases r with
      | inr q =>
        obtain ⟨cur,rfl⟩:=hr;exact ⟨((un,uv,cur,()),0,6,()),by simp only [F77,e39,zE,yM,zK,hdi,e30,e0],λh=>by simp at h⟩
      | inl q =>
        obtain ⟨n,rfl,hnm⟩:=hr;simp only at hnm;have hp:(srtB (ls.map (ren db dt))).Perm (ls.map (ren db dt)):=srtBy_perm _ _ _;have hs:(srtB (ls.map (ren db dt))).Pairwise λa b=>¬ b.1<a.1:=srtBy_sorted _ _ _
        have hlen:(srtB (ls.map (ren db dt))).length=ls.length:=by rw [hp.length_eq,List.length_map]
        have hok:srtBOK (ls.map (ren db dt))=true:=by
          unfold srtBOK;simp only [List.length_map,yR,xX,Bool.not_eq_true',List.isEmpty_eq_false_iff];refine ⟨by omega,λh=>?_⟩
          have:=congrArg List.length h
          rw [List.length_map,List.length_nil] at this;omega
        obtain ⟨S,hS⟩:∃ S,srtB (ls.map (ren db dt))=S:=⟨_,rfl⟩;rw [hS] at hp hs hlen;obtain ⟨r,e1,hr⟩:=L77_1_ex un uv n S [] (by omega) (by omega);have c1:decide ((1:Int)<=((S.length:Nat):Int))=true:=zm (by omega)
        cases r with
        | inr q =>
          obtain rfl:=hr;exact ⟨((un,uv,S,()),0,10,()),by simp only [F77,e39,zE,yM,zK,hdi,e30,e0,hok,zI,hS,c1,Int.le_refl,zd,yW,yF,e1],λh=>by simp at h⟩
        | inl q =>
          obtain ⟨rfl,hd⟩:=hr;refine ⟨((un,uv,S,()),n,0,()),by simp only [F77,e39,zE,yM,zK,hdi,e30,e0,hok,zI,hS,c1,Int.le_refl,zd,yW,yF,e1],λ_=>⟨?_,rfl⟩⟩;have hmem:∀ b∈S,∃ a∈ls,ren db dt a=b:=λb hb=>List.mem_map.1 (hp.mem_iff.1 hb)
          have hrise:S.Pairwise λa b=>a.1<b.1:=rise_of λk hk=>by
            have h1:=List.pairwise_iff_getElem.1 hs k (k+1) (by omega) hk (by omega);have h2:=hd k hk;rw [wQ,wQ,List.getElem?_eq_getElem (show k<S.length by omega),List.getElem?_eq_getElem hk] at h2 ⊢;exact wg h1 λe=>h2 e.symm
          have heach:∀ b∈S,Right (z8 b):=λb hb=>by
            obtain ⟨a,ha,rfl⟩:=hmem b hb;have R:=g3 a ha;exact ⟨R.valid,R.next,R.few,R.each,R.rise⟩
          have hfew:S.length<=6:=by omega
          have hsum:=sum_perm hp;have hsum2:=ren_sums db dt ls;have hroom:=(tm g3 g1).1 g7
          exact {
            good:=⟨hfew,hrise,heach,G.good.valid,λb hb=>by
              obtain ⟨a,ha,rfl⟩:=hmem b hb
              exact g4 a ha⟩
            user:=G.user
            names:=λb hb=>by
              obtain ⟨a,ha,rfl⟩:=hmem b hb;exact hnm a ha
            inb:=by
              obtain ⟨b,hb,hbn⟩:=g6;refine ⟨ren db dt b,hp.mem_iff.2 (List.mem_map_of_mem hb),?_⟩;unfold ren;rw [hbn];exact inbx_stays dt hin
            room:=by
              show wth S=true;rw [tm heach hfew]
              omega }
structure FineM (m:Mp):Prop where
 nodup:(m.map (·.1)).Nodup
 few:m.length<=16
 fine:∀ (k:Tx) u,zO .str m k=some u->Fine (usr u)/\u.1=k
theorem FineM.nil:FineM []:=⟨List.nodup_nil,Nat.zero_le _,λk u h=>by cases h⟩
theorem FineM.set {m:Mp} (G:FineM m) {k:Tx} {u:ww} (hl:(yA .str m k (u.1,(u.2.1,(u.2.2.1,())))).length<=16) (hu:Fine u) (hk:u.1=k):FineM (yA .str m k (u.1,(u.2.1,(u.2.2.1,())))) where
 nodup:=mapSet_nd xH G.nodup
 few:=hl
 fine:=λk' u' h=>by
  rw [mapGet_set xH G.nodup] at h
  cases hq:yw .str k' k with
  | true =>
   rw [hq,zI,y5] at h;subst h;have:k'=k:=(xH k' k).1 hq;exact ⟨hu,hk.trans this.symm⟩
  | false =>
   rw [hq,zK] at h;exact G.fine k' u' h
theorem FineM.del {m:Mp} (G:FineM m) (k:Tx):FineM (yk .str m k) where
 nodup:=mapDel_nd (t:=.str) G.nodup
 few:=Nat.le_trans (mapDel_sub (t:=.str) m k).length_le G.few
 fine:=λk' u' h=>by
  rw [mapGet_del xH G.nodup] at h
  cases hq:yw .str k' k with
  | true=>rw [hq,zI] at h;cases h
  | false =>
   rw [hq,zK] at h;exact G.fine k' u' h
theorem come_fine {m:Mp} (G:FineM m) {u:ww} (hu:Fine u):FineM (come m u).2:=by
 unfold come;split
 ·exact G
 ·rename_i h1;split
  ·exact G
  ·rename_i h2;refine G.set ?_ hu rfl;rw [sD xH]
   have:=G.few
   cases (zO .str m u.1).isSome
   ·simp only [zK];omega
   ·simp only [zI];omega
theorem kept_fine {m:Mp} (G:FineM m) {user:Tx} {u:Tx×(Int×(List Bx×Unit))} (hm:zO .str m user=some u) (r:ww×Int×Int×Unit) (h:r.2.2.1=0->Fine r.1/\r.1.1=user):FineM (kept m user r).2:=by
 unfold kept;simp only;split
 ·rename_i h0;refine G.set ?_ (h h0).1 (h h0).2;rw [sD xH,hm];exact G.few
 ·exact G
theorem F48_enter (m:Mp) (d:Dd) (u:ww) (hc:F73 ((d,()),())=some (0,())) (h8:d.1=8) (h75:F75 ((d.2.2.2.2.2.2.2.2.2.1,()),())=some ((u,0,()),())) :
  F48 ((true,d,()),(((),()),m,()))=some ((0,(come m u).1,()),(((),()),(come m u).2,())):=by
 obtain ⟨dd,du,db,dt,uid,how,fl,ds,de,by',⟨⟩⟩:=d;obtain ⟨un,uv,ls,⟨⟩⟩:=u;simp only at h8 h75;subst h8;have e74:=F74_eq m (un,uv,ls,());simp only [F48,hc,zE,zd,yM,zK,zI,yd,show decide ((8:Int)=1)=false from rfl,h75,e74]
theorem F48_rename (m:Mp) (d:Dd) (u:Tx×(Int×(List Bx×Unit))) (R:ww×Int×Int×Unit) (hc:F73 ((d,()),())=some (0,())) (h7:d.1=7) (hm:zO .str m d.2.1=some u)
  (h77:F77 ((usr u,d,()),())=some (R,())) :
  F48 ((true,d,()),(((),()),m,()))=some ((kept m d.2.1 R).1,(((),()),(kept m d.2.1 R).2,())):=by
 obtain ⟨dd,du,db,dt,uid,how,fl,ds,de,by',⟨⟩⟩:=d;obtain ⟨un,uv,ls,⟨⟩⟩:=u;obtain ⟨⟨ru,rv,rl,⟨⟩⟩,rn,re,⟨⟩⟩:=R;simp only at h7 hm;subst h7;unfold usr at h77;simp only at h77;simp only [F48,hc,zE,zd,yM,zK,zI,yd,hm,show decide ((7:Int)=1)=false from rfl,show decide ((7:Int)=8)=false from rfl,show decide ((7:Int)=2)=false from rfl,show decide ((7:Int)=3)=false from rfl,Option.isSome_some,Option.getD_some,h77,kept];by_cases hr:re=0
 ·simp [hr]
 ·simp [hr]
theorem F48_leave (m:Mp) (d:Dd) (u:Tx×(Int×(List Bx×Unit))) (hc:F73 ((d,()),())=some (0,())) (h9:d.1=9) (hm:zO .str m d.2.1=some u) :
  F48 ((true,d,()),(((),()),m,()))=some ((0,0,()),(((),()),yk .str m d.2.1,())):=by
 obtain ⟨dd,du,db,dt,uid,how,fl,ds,de,by',⟨⟩⟩:=d;obtain ⟨un,uv,ls,⟨⟩⟩:=u;simp only at h9 hm;subst h9;simp only [F48,hc,zE,zd,yM,zK,zI,yd,hm,show decide ((9:Int)=1)=false from rfl,show decide ((9:Int)=8)=false from rfl,show decide ((9:Int)=2)=false from rfl,show decide ((9:Int)=3)=false from rfl,show decide ((9:Int)=7)=false from rfl,Option.isSome_some,Option.getD_some]
theorem F48_fine {m:Mp} (G:FineM m) (d:Dd) (hu:d.2.1.length<=1100000) (ht:d.2.2.2.1.length<=1100000) :
  ∃ n e m',F48 ((true,d,()),(((),()),m,()))=some ((n,e,()),(((),()),m',()))/\FineM m':=by
 obtain ⟨e0,hc,hC⟩:=F73_ex d (Nat.le_trans hu (by decide));by_cases he0:e0=0
 ·subst he0;obtain ⟨C,hE⟩:=hC rfl;by_cases h1:d.1=1
  ·exact ⟨_,_,_,F48_open m d hc h1,come_fine G (new_fine C.user)⟩
  ·by_cases h8:d.1=8
   ·obtain ⟨u,h75,_,hF⟩:=hE h8;exact ⟨_,_,_,F48_enter m d u hc h8 h75,come_fine G hF⟩
   ·cases hm:zO .str m d.2.1 with
    | none=>exact ⟨_,_,_,F48_gone m d hc h1 h8 hm,G⟩
    | some u =>
     obtain ⟨Fu,hk⟩:=G.fine d.2.1 u hm;have Gu:Good u:=Fu.good;by_cases h23:d.1=2\/d.1=3
     ·obtain ⟨lo,e1,e2,e3,e4,e5,e6⟩:=F76_eq u d (Nat.le_trans Gu.few (by decide)) Gu.rise;refine ⟨_,_,_,F48_shape m d u lo hc h23 hm e1,kept_fine G hm _ λhe=>?_⟩;by_cases h2:d.1=2
      ·obtain ⟨q1,q2⟩:=make_fine Fu d h2 e2 e3 e4 e6 (C.box h2) he;exact ⟨q1,q2.trans hk⟩
      ·obtain ⟨q1,q2⟩:=drop_fine Fu d h2 e5 he;exact ⟨q1,q2.trans hk⟩
     ·rw [not_or] at h23;by_cases h7:d.1=7
      ·obtain ⟨R,e1,e2⟩:=F77_ex Fu d ht;refine ⟨_,_,_,F48_rename m d u R hc h7 hm e1,kept_fine G hm _ λhe=>?_⟩;obtain ⟨q1,q2⟩:=e2 he;exact ⟨q1,q2.trans hk⟩
      ·by_cases h9:d.1=9
       ·exact ⟨_,_,_,F48_leave m d u hc h9 hm,G.del _⟩
       ·rcases F78_eq u d (Nat.le_trans Gu.few (by decide)) Gu.len Gu.rise with ⟨_,e1⟩ | ⟨lo,l1,l2,e1⟩
        ·exact ⟨_,_,_,F48_box m d u _ hc h1 h23.1 h23.2 h7 h8 h9 hm e1,kept_fine G hm _ λh=>absurd h (by simp)⟩
        ·refine ⟨_,_,_,F48_box m d u _ hc h1 h23.1 h23.2 h7 h8 h9 hm e1,kept_fine G hm _ λhe=>?_⟩;obtain ⟨q1,q2⟩:=boxd_fine Fu l1 d he;exact ⟨q1,q2.trans hk⟩
 ·exact ⟨0,e0,m,F48_bad m d e0 hc he0,G⟩
abbrev Small (d:Dd):Prop:=d.2.1.length<=1100000/\d.2.2.2.1.length<=1100000
abbrev R27:Type:=((Bool×Unit×Unit)×((Unit×Unit)×Mp×(List Int)×Unit))⊕((Bool×Unit×Int×Int×Unit)×((Unit×Unit)×Mp×(List Int)×Unit))
theorem L27_ex {m:Mp} (G:FineM m) (l:List Dd) (hs:∀ d∈l,Small d) (hl:l.length<=12) :
  ∃ r:R27,L27_0 ((true,(),l,((l.length:Nat):Int),(0:Int),()),(((),()),m,([]:List Int),()))=some r /\
   match r with
   | .inl q=>∃ m' o,q=((true,(),()),(((),()),m',o,()))/\FineM m'
   | .inr q=>∃ i e m' o,q=((true,(),i,e,()),(((),()),m',o,()))/\FineM m':=by
 have hF:=zR;unfold L27_0
 refine z6 (f:=wZ) (λp=>∃ (i:Nat) (m':Mp) (o:List Int),i<=l.length/\o.length<=i/\FineM m'/\p=((true,(),l,((l.length:Nat):Int),(i:Int),()),(((),()),m',o,()))) (λp=>l.length-p.1.2.2.2.2.1.toNat) _ ?_
  ⟨0,m,[],Nat.zero_le _,Nat.le_refl _,G,rfl⟩ (by simp only;omega)
 rintro p ⟨i,m',o,hi,ho,G',rfl⟩;rcases Nat.lt_or_ge i l.length with h | h
 ·have d0:decide ((i:Int)<((l.length:Nat):Int))=true:=zm (by omega);have d1:decide ((0:Int)<=(i:Int))=true:=zm (by omega);have w1:zh ((i:Int)+1)=((i+1:Nat):Int):=by rw [zV (by omega) (by omega)];rfl
  obtain ⟨d,hd⟩:∃ d,l[i]=d:=⟨_,rfl⟩;have hg:∀ z,l.getD i z=d:=λz=>by rw [wQ,List.getElem?_eq_getElem h,hd];rfl
  have hm:Small d:=hs d (by rw [<- hd];exact List.getElem_mem h);obtain ⟨n,e,m2,h48,G2⟩:=F48_fine G' d hm.1 hm.2;obtain ⟨dd,du,db,dt,uid,how,fl,ds,de,by',⟨⟩⟩:=d;by_cases he:e=0
  ·subst he;left;have hb:zH (o.length+[n].length) 8=true:=zl (by simp only [lSg];omega);refine ⟨_,by simp only [wZ,d0,d1,yW,zI,zE,yF,hg,h48,zd,yM,zK,hb,w1];rfl,⟨i+1,m2,_,h,?_,G2,rfl⟩,?_⟩
   ·rw [xe,lSg];omega
   ·simp only;omega
  ·right;refine ⟨.inr ((true,(),(i:Int),e,()),(((),()),m2,[],())),?_,_,_,_,_,rfl,G2⟩;simp only [wZ,d0,d1,yW,zI,zE,yF,hg,h48,yv he,xf]
 ·have hi':i=l.length:=by omega
  subst hi';right;refine ⟨.inl ((true,(),()),(((),()),m',o,())),?_,_,_,rfl,G'⟩;simp only [wZ,Int.lt_irrefl,xA,zK]
theorem F12_eq {m:Mp} {name:Tx} {u:Tx×(Int×(List Bx×Unit))} (hm:zO .str m name=some u) (G:Good (usr u)) :
  F12 ((some (m,()),name,()),())=some (((u.1,u.2.1,(),()),0,()),(u.2.2.1,())):=by
 obtain ⟨un,uv,ls,⟨⟩⟩:=u;have hF:=zR;have hl:ls.length<=6:=G.few;have e30:=F30d_eq ls (by omega)
 obtain ⟨r,hr,rfl⟩:∃ r,L12_0 (((),(),(),((ls.length:Nat):Int),(0:Int),()),(((),(),(),()),(un,uv,(),()),mxs ls 0,([]:List Bx),()))=some r/\r=(((),(),()),(((),(),(),()),(un,uv,(),()),([]:List Bx),mxs ls ls.length,())):=by
  unfold L12_0;refine z6 (f:=B12_0) (λp=>∃ i:Nat,i<=ls.length/\p=(((),(),(),((ls.length:Nat):Int),(i:Int),()),(((),(),(),()),(un,uv,(),()),mxs ls i,([]:List Bx),()))) (λp=>ls.length-p.1.2.2.2.2.1.toNat) _ ?_ ⟨0,Nat.zero_le _,rfl⟩ (by simp only;omega);rintro p ⟨i,hi,rfl⟩;rcases Nat.lt_or_ge i ls.length with h | h
  ·left;have d0:decide ((i:Int)<((ls.length:Nat):Int))=true:=zm (by omega);have d1:decide ((0:Int)<=(i:Int))=true:=zm (by omega);have R:=G.each ls[i] (List.getElem_mem h);have e31:=F31d_eq (z8 ls[i]) R.few λl hl'=>(R.each l hl').2.2.2
   unfold z8 at e31;have hs:=mxs_set h;have hg:=mxs_get h;refine ⟨(((),(),(),((ls.length:Nat):Int),((i+1:Nat):Int),()),(((),(),(),()),(un,uv,(),()),mxs ls (i+1),([]:List Bx),())),?_,⟨i+1,h,rfl⟩,by simp only;omega⟩;generalize hx:ls[i]=x at e31 hs hg;obtain ⟨x1,x2,x3,x4,⟨⟩⟩:=x;simp only at e31;simp only [B12_0,mxs_len,d0,d1,yW,zI,zE,yF,hg,e31,hs,yH (show i<9223372036854775807 by omega)]
  ·right;obtain rfl:i=ls.length:=by omega
   exact ⟨_,by simp only [B12_0,Int.lt_irrefl,xA,zK],rfl⟩
 obtain ⟨m1,m2⟩:=mxs_all ls;simp only [F12,Option.isNone_some,List.getD_cons_zero,yM,zK,zI,zE,hm,Option.isSome_some,Option.getD_some,e30,mxs_len,hr,m1,m2]
theorem F12_none {m:Mp} {name:Tx} (hm:zO .str m name=none):F12 ((some (m,()),name,()),())=some ((([],0,(),()),9,()),([],())):=by
 simp only [F12,Option.isNone_some,List.getD_cons_zero,Option.isSome_some,Option.getD_some,zK,zI,zE,hm,Option.isSome_none,xf]
theorem keys_perm (m:Mp):(wV m).Perm (m.map (·.1)):=List.mergeSort_perm _ _
theorem tx_le_total (a b:Tx):(decide (a<=b)||decide (b<=a))=true:=by
 rcases List.le_total a b with h | h
 ·simp [h]
 ·simp [h]
theorem keys_rise {m:Mp} (hn:(m.map (·.1)).Nodup):(wV m).Pairwise λa b=>a<b:=by
 have hs:(wV m).Pairwise λa b=>(decide (a<=b))=true:=List.pairwise_mergeSort (λa b c h1 h2=>by
  simp only [xX] at h1 h2 ⊢
  exact List.le_trans h1 h2) tx_le_total _
 have hd:(wV m).Nodup:=(keys_perm m).nodup_iff.2 hn
 have:=hs.and hd
 exact this.imp λ{a b} h=>by
  obtain ⟨h1,h2⟩:=h;simp only [xX] at h1;have h3:¬ b<a:=List.not_lt.2 h1;exact wg h3 λe=>h2 e.symm
theorem F11_eq {m:Mp} (G:FineM m):F11 ((some (m,()),()),())=some ((),(wV m,())):=by
 have hk:keysOK m=true:=by
  unfold keysOK;simp only [yR,xX,List.all_eq_true];refine ⟨Nat.le_trans G.few (by decide),λp hp=>?_⟩;have hg:=vE xH G.nodup (k:=p.1) (x:=p.2) hp;obtain ⟨F,he⟩:=G.fine p.1 p.2 hg;rw [<- he];exact Nat.le_trans (user_le F.user) (by decide)
 simp only [F11,Option.isNone_some,Option.isSome_some,Option.getD_some,List.getD_cons_zero,zK,zI,hk]
theorem L34_eq (nm:List UInt8) (v n:Int) (ls:List yJ) (hl:ls.length<=32):L34_0 (((),(0:Int),()),((nm,v,n,ls,()),()))=some (chk n ls):=by
 have hF:=zR
 refine yC (f:=B34_0) (λ(_:Int) i=>(((),(i:Int),()),((nm,v,n,ls,()),()))) ls (chk1 n) _ (λb i=>0<=b/\(i=0->b=0)/\(∀ d,0<i->(ls.getD (i-1) d).1=b))
  (λb i a hI hi ha=>?_) (λb _=>?_) (by omega) ⟨by omega,λ_=>rfl,λ_ h=>absurd h (Nat.lt_irrefl _)⟩
 ·obtain ⟨hb,hb0,hbp⟩:=hI
  have hw:0<i->zh ((i:Int)-1)=((i-1:Nat):Int):=λh=>by
   rw [zV (by omega) (by omega)];omega
  have hc:(decide (a.1<(1:Int))||decide (n<=a.1)||(decide ((0:Int)<(i:Int))&&decide (a.1<=(ls.getD (Int.toNat (zh ((i:Int)-1))) ((0:Int),((0:UInt8),(([]:(List UInt8)),())))).1)))=decide (a.1<=b\/n<=a.1):=by
   by_cases h0:0<i
   ·rw [hw h0,yF,hbp _ h0];rw [Bool.eq_iff_iff];simp only [Bool.or_eq_true,yR,xX];omega
   ·have:=hb0 (by omega)
    rw [Bool.eq_iff_iff];simp only [Bool.or_eq_true,yR,xX];omega
  have hg:(((decide ((0:Int)<=(zh ((i:Int)-(1:Int)))))&&(decide ((zh ((i:Int)-(1:Int)))<(((List.length ls):Nat):Int))))||(!((decide ((0:Int)<(i:Int)))&&(!((decide (a.1<(1:Int)))||(decide (n<=a.1)))))))=true:=by
   by_cases h0:0<i
   ·rw [hw h0,yj,yt];simp;omega
   ·simp [h0]
  simp only [B34_0,yt,yj,hi,zd,Bool.and_true,zI,zE,yF,ha];rw [hg,hc];simp only [zI,zE];unfold chk1;by_cases h1:a.1<=b\/n<=a.1
  ·exact .inr ⟨_,if_pos h1,by simp [h1]⟩
  ·simp only [h1,↓reduceIte];by_cases h2:32<=a.2.1.toNat
   ·exact .inr ⟨_,if_pos h2,by
     have h2':31<a.2.1.toNat:=by omega
     simp [h2']⟩
   ·have h2':¬ 31<a.2.1.toNat:=by omega
    rw [if_neg h2];by_cases h3:600<a.2.2.1.length
    ·have h3':(600:Int)<(a.2.2.1.length:Int):=by omega
     exact .inr ⟨_,if_pos h3,by simp [h2',h3']⟩
    ·have h3':¬ (600:Int)<(a.2.2.1.length:Int):=by omega
     exact .inl ⟨_,if_neg h3,⟨by omega,by omega,λd _=>by rw [Nat.add_sub_cancel,ha]⟩,by simp [h2',h3',zV (n:=(i:Int)+1) (by omega) (by omega)]⟩
 ·simp only [B34_0,Int.lt_irrefl,xA,zK]
theorem F34c_eq (b:wN):F34 ((b,()),())=some (xN b,()):=by
 obtain ⟨nm,v,n,ls,u⟩:=b
 cases u;simp only [F34,xN];by_cases h1:v<1\/4294967295<v\/n<1\/4294967295<n
 ·have e:(decide (v<(1:Int))||decide ((4294967295:Int)<v)||decide (n<(1:Int))||decide ((4294967295:Int)<n))=true:=by
   simp only [Bool.or_eq_true,xX];omega
  simp only [h1,↓reduceIte,e,zI]
 ·have e:(decide (v<(1:Int))||decide ((4294967295:Int)<v)||decide (n<(1:Int))||decide ((4294967295:Int)<n))=false:=by
   simp only [Bool.or_eq_false_iff,decide_eq_false_iff_not];omega
  simp only [h1,↓reduceIte,e,zK];by_cases h3:32<ls.length
  ·have h3':(32:Int)<(ls.length:Int):=by omega
   simp [h3,h3']
  ·have h3':¬ (32:Int)<(ls.length:Int):=by omega
   simp only [h3,h3',L34_eq nm v n ls (by omega),xA,zK,zE,↓reduceIte]
   cases chk n ls <;> rfl
theorem F66_eq (b:wN) (f:UInt8) (p:List UInt8):F66 ((b,f,p,()),())=some (add b f p,()):=by
 have e34:=F34c_eq b;have ez:=check_zero (b:=b);obtain ⟨nm,v,n,ls,u⟩:=b
 cases u;unfold add;simp only [F66,e34,zE];generalize hc:xN (nm,v,n,ls,())=c at *;by_cases h0:c=0
 ·have R:=ez.mp h0;have hr:=R.few;have hn:=R.next;simp only at hr hn;simp only [h0,ne_eq,not_true_eq_false,↓reduceIte,zd,yM,zK];by_cases h1:32<=f.toNat
  ·have h1':31<f.toNat:=by omega
   simp [h1,h1',yO]
  ·have h1':¬ 31<f.toNat:=by omega
   by_cases h2:600<p.length
   ·have h2':(600:Int)<(p.length:Int):=by omega
    simp [h1,h1',h2,h2',yO]
   ·have h2':¬ (600:Int)<(p.length:Int):=by omega
    by_cases h3:ls.length=32\/n=4294967295
    ·have h3':(decide ((31:Int)<((ls.length:Nat):Int))||decide (4294967294<n))=true:=by
      simp only [Bool.or_eq_true,xX];omega
     simp [h1,h1',h2,h2',h3,h3',yO]
    ·have h3':(decide ((31:Int)<((ls.length:Nat):Int))||decide (4294967294<n))=false:=by
      simp only [Bool.or_eq_false_iff,decide_eq_false_iff_not];omega
     have hb:zH (ls.length+1) 40=true:=zl (by omega);have hb1:zH ls.length 40=true:=zl (by omega);have hb2:zH p.length 1=true:=zl (by omega)
     simp only [show UInt8.toNat 31=31 from rfl,h1,h1',h2,h2',h3,h3',xA,zK,zE,↓reduceIte,List.length_cons,List.length_nil,Nat.zero_add,hb,hb1,hb2,zI,List.nil_append,
      zV (n:=n+1) (by omega) (by omega),yd]
 ·simp [h0,yO]
def wthL (uid:Int) (l:List yJ) (a:yJ):List yJ:=if a.1=uid then l else [a]
def stp88 (uid:Int) (l:List yJ) (a:yJ) (b:Bool×List yJ):(Bool×List yJ)⊕((Unit×Unit×Bool×Unit)×((Unit×Unit×Unit×Unit×Unit)×((List UInt8)×Int×Int×Unit×Unit)×List yJ×List yJ×Unit)) :=
 .inl (b.1||decide (a.1=uid),b.2++wthL uid l a)
theorem fold88 (uid:Int) (l:List yJ) (fin):∀ (ls:List yJ) (b:Bool×List yJ),zk (stp88 uid l) fin b ls=fin (b.1||has ls uid,b.2++ls.flatMap (wthL uid l))
 | [],b=>by simp [zk,has]
 | a::t,b=>by
  simp only [zk,stp88];rw [fold88 uid l fin t];simp [has,Bool.or_assoc]
theorem F88_eq (b:wN) (uid:Int) (l:List yJ) (hl:b.2.2.2.1.length<=32) (h1:l.length<=1) :
  F88 ((b,uid,l,()),())=some (((b.1,b.2.1,b.2.2.1,b.2.2.2.1.flatMap (wthL uid l),()),has b.2.2.2.1 uid,()),()):=by
 obtain ⟨nm,v,n,ls,u⟩:=b
 cases u;have hF:=zR;change ls.length<=32 at hl
 have h:L88_0 ((uid,l,(),(),(),false,(0:Int),()),((nm,v,n,ls,()),((),(),(),(),()),(nm,v,n,(),()),[],[],()))=some (zk (stp88 uid l) (λb=>(((),(),b.1,()),(((),(),(),(),()),(nm,v,n,(),()),[],b.2,()))) (false,[]) ls):=by
  refine yC (f:=B88_0) (λ(b:Bool×List yJ) i=>((uid,l,(),(),(),b.1,(i:Int),()),((nm,v,n,ls,()),((),(),(),(),()),(nm,v,n,(),()),[],b.2,()))) ls (stp88 uid l) _ (λb i=>b.2.length<=i) (b:=(false,[]))
   (λb i a hI hi ha=>.inl ⟨_,rfl,?_,?_⟩) (λb _=>?_) (by omega) (Nat.le_refl _)
  ·simp only [xe,wthL];split
   ·omega
   ·simp only [List.length_cons,List.length_nil];omega
  ·have hb1:zH (b.2.length+l.length) 40=true:=zl (by omega);have hb2:zH (b.2.length+1) 40=true:=zl (by omega);simp only [B88_0,yt,yj,hi,zd,Bool.and_true,zI,zE,yF,ha,List.length_cons,List.length_nil,Nat.zero_add,hb1,hb2,wthL];by_cases hc:a.1=uid
   ·simp only [hc,zd,zI,zE,Bool.or_true,↓reduceIte,yH (show i<9223372036854775807 by omega)]
   ·simp only [hc,xA,zK,zE,Bool.or_false,↓reduceIte,yH (show i<9223372036854775807 by omega)]
  ·simp only [B88_0,Int.lt_irrefl,xA,zK]
 rw [fold88] at h;simp only [F88,h,zE,Bool.false_or,List.nil_append]
theorem flat_filter (uid:Int):∀ (ls:List yJ),ls.flatMap (wthL uid [])=ls.filter (keep uid)
 | []=>rfl
 | a::t=>by
  rw [List.flatMap_cons,flat_filter uid t,List.filter_cons];by_cases h:a.1=uid <;> simp [wthL,keep,h]
theorem F68_eq (b:wN) (uid:Int):F68 ((b,uid,()),())=some (cut b uid,()):=by
 have e34:=F34c_eq b;have e88:=F88_eq b uid [];have ez:=check_zero (b:=b);obtain ⟨nm,v,n,ls,u⟩:=b
 cases u;unfold cut;simp only [F68,e34,zE];generalize hc:xN (nm,v,n,ls,())=c at *;by_cases h0:c=0
 ·have R:=ez.mp h0;simp only [h0,ne_eq,not_true_eq_false,↓reduceIte,zd,yM,zK,e88 R.few (Nat.zero_le _),zE,flat_filter]
  cases hh:has ls uid
  ·simp [yO]
  ·simp
 ·simp [h0,yO]
theorem bits_all:((List.range 32).all λx=>(List.range 32).all λy=>decide (bits 0 (UInt8.ofNat x) (UInt8.ofNat y)=lay 0 (UInt8.ofNat x) (UInt8.ofNat y))&&decide (bits 1 (UInt8.ofNat x) (UInt8.ofNat y)=lay 1 (UInt8.ofNat x) (UInt8.ofNat y))&&decide (bits 2 (UInt8.ofNat x) (UInt8.ofNat y)=lay 2 (UInt8.ofNat x) (UInt8.ofNat y)))=true:=by kernel_rfl
theorem bits_eq {how:Int} {was f:UInt8} (h1:0<=how) (h2:how<=2) (hw:was.toNat<32) (hf:f.toNat<32):bits how was f=lay how was f:=by
 have h:=List.all_eq_true.mp (List.all_eq_true.mp bits_all was.toNat (List.mem_range.mpr hw)) f.toNat (List.mem_range.mpr hf);rw [UInt8.ofNat_toNat,UInt8.ofNat_toNat,yR,yR,xX,xX,xX] at h;obtain rfl | rfl | rfl:how=0\/how=1\/how=2:=by omega
 ·exact h.1.1
 ·exact h.1.2
 ·exact h.2
theorem B67_1_eq (b:wN) (uid how:Int) (f is bit:UInt8) (l:yJ) (ks:List yJ) (hb:bit.toNat<32) (h0:bit≠0) :
  B67_1 ((uid,how,f,(),(),(),is,bit,()),(b,((),(),(),(),()),l,ks,()))=some (.inl ((uid,how,f,(),(),(),stpB how l.2.1 f bit is,bit*2,()),(b,((),(),(),(),()),l,ks,()))):=by
 have h2:decide ((2:UInt8)≠0)=true:=rfl;have hb':decide (bit.toNat<UInt8.toNat 32)=true:=zm hb;have h0':decide (bit≠0)=true:=zm h0;simp only [B67_1,hb',h0',h2,zI,zE,stpB];generalize hq:(decide (how=0)&&decide (f/bit % 2=1)||decide (how=1)&&(decide (l.2.1/bit % 2=1)||decide (f/bit % 2=1))||decide (how=2)&&decide (l.2.1/bit % 2=1)&&!decide (f/bit % 2=1))=q
 cases q
 ·simp only [zK,zE,Bool.false_eq_true,↓reduceIte]
 ·simp only [zI,zE,↓reduceIte]
theorem tV {σ τ:Type} {f:σ->Option (σ⊕τ)} {p q:σ} {n:Nat} (h:f p=some (.inl q)):iter f (n+1) p=iter f n q:=by
 simp only [iter,h]
theorem L67_1_eq (b:wN) (uid how:Int) (f:UInt8) (l:yJ) (ks:List yJ) :
  L67_1 ((uid,how,f,(),(),(),0,1,()),(b,((),(),(),(),()),l,ks,()))=some ((uid,(),(),(),bits how l.2.1 f,()),(b,((),(),(),(),()),l,ks,())):=by
 change iter B67_1 (9223372036854775802+1+1+1+1+1+1) _=_
 rw [tV (B67_1_eq b uid how f _ 1 l ks (by decide) (by decide)),tV (B67_1_eq b uid how f _ (1*2) l ks (by decide) (by decide)),tV (B67_1_eq b uid how f _ (1*2*2) l ks (by decide) (by decide)),
  tV (B67_1_eq b uid how f _ (1*2*2*2) l ks (by decide) (by decide)),tV (B67_1_eq b uid how f _ (1*2*2*2*2) l ks (by decide) (by decide))]
 have e:decide (UInt8.toNat (1*2*2*2*2*2)<UInt8.toNat 32)=false:=by decide
 simp only [iter,B67_1,e,zK];rfl
abbrev R67:Type:=((Unit×Unit)×((Unit×Unit×Unit×Unit×Unit)×List yJ×Unit))⊕((Unit×Unit×Unit)×((List UInt8)×Int×Int×List yJ×Unit)×Unit)
def stp67 (nm:List UInt8) (v n:Int) (ls:List yJ) (uid how:Int) (f:UInt8) (a:yJ) (_:Unit):Unit⊕R67 :=
 if a.1=uid then .inr (.inr (((),(),()),((nm,v,n,ls.flatMap (wthL uid [(a.1,bits how a.2.1 f,a.2.2.1,())]),()),()))) else .inl ()
theorem L67_0_eq (nm:List UInt8) (v n:Int) (ls:List yJ) (uid how:Int) (f:UInt8) (hl:ls.length<=32) :
  L67_0 ((uid,how,f,(),(),(0:Int),()),((nm,v,n,ls,()),((),(),(),(),()),[],()))=some (zk (stp67 nm v n ls uid how f) (λ_=>.inl (((),()),(((),(),(),(),()),[],()))) () ls):=by
 have hF:=zR;refine yo (f:=B67_0) (λ(_:Unit) i=>((uid,how,f,(),(),(i:Int),()),((nm,v,n,ls,()),((),(),(),(),()),[],()))) ls (stp67 nm v n ls uid how f) _ (λb i a hi ha=>?_) (λb=>?_) (by omega)
 ·have e88:=F88_eq (nm,v,n,ls,()) uid [(a.1,bits how a.2.1 f,a.2.2.1,())] hl (by simp);have e67:=L67_1_eq (nm,v,n,ls,()) uid how f (a.1,a.2.1,a.2.2.1,()) [];simp only at e88 e67;simp only [B67_0,yt,yj,hi,zd,Bool.and_true,zI,zE,yF,ha,stp67];by_cases hc:a.1=uid
  ·simp only [hc,zd,yM,zK,↓reduceIte];rw [hc] at e67 e88;rw [e67];simp only [zE];rw [e88];simp only [zE]
  ·simp only [hc,xA,xf,zI,↓reduceIte,yH (show i<9223372036854775807 by omega)]
 ·simp only [B67_0,Int.lt_irrefl,xA,zK]
theorem flat_map {ls:List yJ} (h:ls.Pairwise (λa b=>a.1<b.1)) {uid:Int} {a:yJ} (ha:a∈ls) (he:a.1=uid) (g:yJ->yJ) :
  ls.flatMap (wthL uid [g a])=ls.map λx=>if x.1=uid then g x else x:=by
 have:∀ t:List yJ,(∀ x∈t,x∈ls)->t.flatMap (wthL uid [g a])=t.map λx=>if x.1=uid then g x else x:=by
  intro t;induction t with
  | nil=>intro _;rfl
  | cons x t ih =>
   intro hx;rw [List.flatMap_cons,ih (λy hy=>hx y (List.mem_cons_of_mem _ hy)),List.map_cons];by_cases hq:x.1=uid
   ·obtain ⟨i,hi,hi2⟩:=List.getElem_of_mem ha;obtain ⟨j,hj,hj2⟩:=List.getElem_of_mem (hx x (List.mem_cons_self ..));have:i=j:=rise_inj h hi hj (by rw [hi2,hj2,he,hq]);subst this;obtain rfl:a=x:=by rw [<- hi2,<- hj2]
    simp [wthL,hq]
   ·simp [wthL,hq]
 exact this ls λ_ h=>h
theorem fold67 (nm:List UInt8) (v n:Int) (ls:List yJ) (uid how:Int) (f:UInt8) (z:R67) (hr:ls.Pairwise (λa b=>a.1<b.1)) (h32:∀ l∈ls,l.2.1.toNat<32) (h1:0<=how) (h2:how<=2) (hf:f.toNat<32) :
  ∀ t:List yJ,(∀ x∈t,x∈ls)->zk (stp67 nm v n ls uid how f) (λ_=>z) () t=if has t uid then .inr (((),(),()),((nm,v,n,ls.map (relay uid how f),()),())) else z
 | [],_=>rfl
 | a::t,hx=>by
  by_cases hc:a.1=uid
  ·have hm:=hx a (List.mem_cons_self ..);have e:=flat_map hr hm hc (λa=>(a.1,lay how a.2.1 f,a.2.2.1,()));have hb:=bits_eq h1 h2 (h32 a hm) hf;simp only [zk,stp67,hc,↓reduceIte,has,List.any_cons,zd,Bool.true_or,hb];rw [hc] at e;rw [e];have hm:(λa:yJ=>if a.1=uid then (a.1,lay how a.2.1 f,a.2.2.1,()) else a)=relay uid how f:=rfl;rw [hm]
  ·have ih:=fold67 nm v n ls uid how f z hr h32 h1 h2 hf t (λy hy=>hx y (List.mem_cons_of_mem _ hy));simp only [zk,stp67,hc,↓reduceIte,has,List.any_cons,xA,Bool.false_or];exact ih
theorem F67_eq (b:wN) (uid how:Int) (f:UInt8):F67 ((b,uid,how,f,()),())=some (flag b uid how f,()):=by
 have e34:=F34c_eq b;have ez:=check_zero (b:=b);obtain ⟨nm,v,n,ls,u⟩:=b
 cases u;unfold flag;simp only [F67,e34,zE];generalize hc:xN (nm,v,n,ls,())=c at *;by_cases h0:c=0
 ·have R:=ez.mp h0;simp only [h0,ne_eq,not_true_eq_false,↓reduceIte,zd,yM,zK];by_cases hb:how<0\/2<how\/32<=f.toNat
  ·have e:((!decide (how=0))&&(!decide (how=1))&&(!decide (how=2))||decide (UInt8.toNat 31<f.toNat))=true:=by
    simp only [Bool.or_eq_true,yR,Bool.not_eq_true',decide_eq_false_iff_not,xX,show UInt8.toNat 31=31 from rfl];omega
   simp only [e,zI,hb,↓reduceIte,yO]
  ·have e:((!decide (how=0))&&(!decide (how=1))&&(!decide (how=2))||decide (UInt8.toNat 31<f.toNat))=false:=by
    obtain rfl | rfl | rfl:how=0\/how=1\/how=2:=by omega
    all_goals
     simp only [Bool.or_eq_false_iff,decide_eq_false_iff_not,show UInt8.toNat 31=31 from rfl];exact ⟨rfl,by omega⟩
   have e67:=fold67 nm v n ls uid how f (.inl (((),()),(((),(),(),(),()),[],()))) R.rise (λl hl=>(R.each l hl).2.2.1) (by omega) (by omega) (by omega) ls (λ_ h=>h);simp only [e,zK,hb,↓reduceIte,L67_0_eq nm v n ls uid how f R.few,e67,zE]
   cases hh:has ls uid
   ·simp [yO]
   ·simp
 ·simp [h0,yO]
theorem loop_sim {σ τ σ' τ':Type} {f:σ->Option (σ⊕τ)} {g:σ'->Option (σ'⊕τ')} (R:σ->σ'->Prop) (T:τ->τ'->Prop)
  (h:∀ p q,R p q->(f p=none/\g q=none)\/(∃ p' q',f p=some (.inl p')/\g q=some (.inl q')/\R p' q')\/(∃ r s,f p=some (.inr r)/\g q=some (.inr s)/\T r s)) :
  ∀ p q,R p q->(zY f p=none/\zY g q=none)\/∃ r s,zY f p=some r/\zY g q=some s/\T r s:=by
 have key:∀ n p q,R p q->(iter f n p=none/\iter g n q=none)\/∃ r s,iter f n p=some r/\iter g n q=some s/\T r s:=by
  intro n;induction n with
  | zero=>intro p q _;left;exact ⟨by simp [iter],by simp [iter]⟩
  | succ n ih =>
   intro p q hR;rcases h p q hR with ⟨h1,h2⟩ | ⟨p',q',h1,h2,h3⟩ | ⟨r,s,h1,h2,h3⟩
   ·left;simp [iter,h1,h2]
   ·simp only [iter,h1,h2];exact ih p' q' h3
   ·right;exact ⟨r,s,by simp [iter,h1],by simp [iter,h2],h3⟩
 exact λp q hR=>key xk p q hR
theorem L69_all (s:List UInt8):∀ (k i:Nat),s.length-i<k->(s.drop i).all okc=true->iter ub k ((s,(),()),((s,i),()))=some (.inl ((s,()),()))
 | 0,_,h,_=>absurd h (Nat.not_lt_zero _)
 | k+1,i,hk,ha=>by
  rw [iter];by_cases hi:i<s.length
  ·have hd:Utf8.decode ⟨s.toArray⟩ i=Lib.decodeL (s.drop i):=dec_at hi
   have hb:ub ((s,(),()),((s,i),()))=cond (!okn ((Lib.decodeL (s.drop i)).1:Int)) (some (Sum.inr (Sum.inr (((),()),())))) (some (Sum.inl ((s,(),()),((s,(i+(Lib.decodeL (s.drop i)).2)),())))):=by
    rw [<- hd];simp only [ub,hi,zd,zI];rfl
   rw [hb];have e:=drop_all hi;rw [e,List.all_cons,yR] at ha;obtain ⟨l1,l2⟩:=dec_low (s.drop i)
   have hlow:((s.drop i).getD 0 0).toNat<128:=by
    rcases Nat.lt_or_ge ((s.drop i).getD 0 0).toNat 128 with h' | h'
    ·exact h'
    ·exfalso
     have:=okn_big h'
     rw [<- okc_eq,e] at this;simp only [List.getD_cons_zero] at this;rw [this] at ha
     cases ha.1
   have hn:okn (((s.drop i).getD 0 0).toNat:Int)=true:=by
    rw [<- okc_eq,e];exact ha.1
   rw [l1 hlow];simp only [hn,yM,zK];exact L69_all s k (i+1) (by omega) ha.2
  ·simp only [ub,hi,xA,zK]
theorem tG (s:Tx) (hs:s.length<=maxLen):F69 ((s,()),())=some (yq s,()):=by
 obtain ⟨b,hb⟩:=F69_some s hs
 cases b with
 | true=>rw [hb,F69_good hb hs]
 | false =>
  cases hr:yq s with
  | false=>exact hb
  | true =>
   have hF:maxLen<xk:=by unfold maxLen xk;omega
   unfold yq at hr;simp only [yR,xX] at hr;have hL:L69_0 ((s,(),()),((s,0),()))=some (.inl ((s,()),())):=L69_all s xk 0 (by omega) (by rw [List.drop_zero];exact hr.1.1)
   have h1:s≠[]:=by
    intro h;rw [h] at hr;simp at hr
   have h2:((s.length:Nat):Int)<=24:=by omega
   simp only [F69,hL,zE,yv h1,zm h2,xf,yW]
abbrev St44:Type:=(Unit×Int×Int×Bool×List Bx×Int×Int×Unit)×(ww×Unit)
abbrev St13:Type:=(Unit×Bool×Int×Int×Int×Unit)×(ww×Unit)
theorem L44_L13 (un:Tx) (uv:Int) (ls:List Bx) (hl:ls.length<=6) (hn:∀ b∈ls,b.1.length<=1100000) (p:St44) (q:St13)
  (h:∃ (i:Nat) (a b:Int) (o:Bool),i<=ls.length/\p=(((),a,b,o,ls,((ls.length:Nat):Int),(i:Int),()),((un,uv,ls,()),()))/\q=(((),o,a,b,(i:Int),()),((un,uv,ls,()),()))) :
  (L44_0 p=none/\L13_0 q=none)\/∃ (r:R44) (s:R13),L44_0 p=some r/\L13_0 q=some s /\
   ((∃ (a b:Int) (o:Bool),r=.inl ((a,b,o,()),())/\s=.inl ((o,a,b,()),()))\/∃ e:Int,r=.inr ((e,()),())/\s=.inr ((e,()),())):=by
 refine loop_sim (f:=u5) (g:=B13_0) (λp q=>∃ (i:Nat) (a b:Int) (o:Bool),i<=ls.length/\p=(((),a,b,o,ls,((ls.length:Nat):Int),(i:Int),()),((un,uv,ls,()),()))/\q=(((),o,a,b,(i:Int),()),((un,uv,ls,()),())))
  (λ(r:R44) (s:R13)=>((∃ (a b:Int) (o:Bool),r=.inl ((a,b,o,()),())/\s=.inl ((o,a,b,()),()))\/∃ e:Int,r=.inr ((e,()),())/\s=.inr ((e,()),()))) ?_ p q h
 rintro p q ⟨i,a,b,o,hi,rfl,rfl⟩;rcases Nat.lt_or_ge i ls.length with h | h
 ·have d0:decide ((i:Int)<((ls.length:Nat):Int))=true:=zm (by omega);have d1:decide ((0:Int)<=(i:Int))=true:=zm (by omega);have w1:zh ((i:Int)+1)=((i+1:Nat):Int):=by rw [zV (by omega) (by omega)];rfl
  obtain ⟨⟨bn,bv,bx,bl,⟨⟩⟩,hb⟩:∃ b,ls.getD i yE=b:=⟨_,rfl⟩;have hgd:ls.getD i (([]:List UInt8),((0:Int),((0:Int),(([]:(List yJ)),()))))=(bn,bv,bx,bl,()):=hb
  have hmem:(bn,bv,bx,bl,())∈ls:=by
   rw [<- hb,wQ,List.getElem?_eq_getElem h];exact List.getElem_mem h
  have e70:=F70_eq bn;have e33:=y8 bn (hn _ hmem);have e71:=F71_eq (bn,bv,bx,bl,());have e34:=F34c_eq (bn,bv,bx,bl,())
  have g:((decide ((0:Int)<=zh ((i:Int)-(1:Int)))&&decide (zh ((i:Int)-(1:Int))<((ls.length:Nat):Int)))||(!(decide ((0:Int)<(i:Int))&&(!(!(zq bn))))))=true:=by
   cases i with
   | zero=>simp
   | succ j =>
    have w2:zh (((j+1:Nat):Int)-1)=(j:Int):=by rw [zV (by omega) (by omega)];omega
    rw [w2,zm (show (0:Int)<=(j:Int) by omega),zm (show (j:Int)<((ls.length:Nat):Int) by omega)];rfl
  obtain ⟨bad,hbad⟩:∃ x,((!(zq bn))||(decide ((0:Int)<(i:Int))&&(Op.bytesLess bn (ls.getD (Int.toNat (zh ((i:Int)-(1:Int)))) (([]:List UInt8),((0:Int),((0:Int),(([]:(List yJ)),()))))).1||decide (bn=(ls.getD (Int.toNat (zh ((i:Int)-(1:Int)))) (([]:List UInt8),((0:Int),((0:Int),(([]:(List yJ)),()))))).1))))=x:=⟨_,rfl⟩
  cases bad with
  | true =>
   right;right;refine ⟨.inr ((4,()),()),.inr ((4,()),()),?_,?_,.inr ⟨4,rfl,rfl⟩⟩
   ·simp only [u5,d0,d1,yW,zI,yF,hgd,zE,e70,g,hbad]
   ·simp only [B13_0,d0,d1,yW,zI,yF,hgd,zE,e33,g,hbad]
  | false =>
   by_cases hc:xN (bn,bv,bx,bl,())=0
   ·have R:=check_zero.1 hc;have e72:=F72_eq (bn,bv,bx,bl,()) (Nat.le_trans R.few (by decide));have e35:=F35_eq (bn,bv,bx,bl,()) R.few;by_cases hv:uv<bv
    ·right;right;refine ⟨.inr ((2,()),()),.inr ((2,()),()),?_,?_,.inr ⟨2,rfl,rfl⟩⟩
     ·simp only [u5,d0,d1,yW,zI,yF,hgd,zE,e70,g,hbad,zK,e71,hc,zd,yM,zm hv]
     ·simp only [B13_0,d0,d1,yW,zI,yF,hgd,zE,e33,g,hbad,zK,e34,hc,zd,yM,zm hv]
    ·right;left
     refine ⟨(((),zh (a+(bl.length:Int)),zh (b+size bl),(o||decide (bn=inbx)),ls,((ls.length:Nat):Int),((i+1:Nat):Int),()),((un,uv,ls,()),())),
      (((),(o||decide (bn=inbx)),zh (a+(bl.length:Int)),zh (b+size bl),((i+1:Nat):Int),()),((un,uv,ls,()),())),?_,?_,i+1,_,_,_,h,rfl,rfl⟩
     ·simp only [u5,d0,d1,yW,zI,yF,hgd,zE,e70,g,hbad,zK,e71,hc,zd,yM,yv hv,e72,w1];rfl
     ·simp only [B13_0,d0,d1,yW,zI,yF,hgd,zE,e33,g,hbad,zK,e34,hc,zd,yM,yv hv,e35,w1];rfl
   ·right;right;refine ⟨.inr ((xN (bn,bv,bx,bl,()),()),()),.inr ((xN (bn,bv,bx,bl,()),()),()),?_,?_,.inr ⟨_,rfl,rfl⟩⟩
    ·simp only [u5,d0,d1,yW,zI,yF,hgd,zE,e70,g,hbad,zK,e71,yv hc,xf]
    ·simp only [B13_0,d0,d1,yW,zI,yF,hgd,zE,e33,g,hbad,zK,e34,yv hc,xf]
 ·have hi':i=ls.length:=by omega
  subst hi';right;right;refine ⟨.inl ((a,b,o,()),()),.inl ((o,a,b,()),()),?_,?_,.inl ⟨a,b,o,rfl,rfl⟩⟩
  ·simp only [u5,Int.lt_irrefl,xA,zK]
  ·simp only [B13_0,Int.lt_irrefl,xA,zK]
theorem F13_F44 (u:ww) (hu:u.1.length<=maxLen) (hn:∀ b∈u.2.2.1,b.1.length<=1100000):F13 ((u,()),())=F44 ((u,()),()):=by
 obtain ⟨un,uv,ls,⟨⟩⟩:=u;simp only [F13,F44,uX un hu,tG un hu,zE]
 cases yq un with
 | false=>rfl
 | true =>
  simp only [yM,zK]
  cases (decide (uv<1)||decide (4294967295<uv)) with
  | true=>rfl
  | false =>
   simp only [zK];have e:decide (((ls.length:Nat):Int)<1)=decide (((ls.length:Nat):Int)=0):=by rw [decide_eq_decide];omega
   rw [e]
   cases h2:(decide (((ls.length:Nat):Int)=0)||decide ((6:Int)<((ls.length:Nat):Int))) with
   | true=>rfl
   | false =>
    simp only [zK];rw [Bool.or_eq_false_iff,decide_eq_false_iff_not,decide_eq_false_iff_not] at h2
    rcases L44_L13 un uv ls (by omega) hn (((),(0:Int),(0:Int),false,ls,((ls.length:Nat):Int),(0:Int),()),((un,uv,ls,()),())) (((),false,(0:Int),(0:Int),(0:Int),()),((un,uv,ls,()),()))
     ⟨0,0,0,false,Nat.zero_le _,rfl,rfl⟩ with ⟨h3,h4⟩ | ⟨r,s,h3,h4,⟨a,b,o,rfl,rfl⟩ | ⟨e,rfl,rfl⟩⟩
    ·rw [h3,h4];rfl
    ·rw [h3,h4];rfl
    ·rw [h3,h4];rfl
def numG (v:Nat) (c:UInt8):Nat:=v*256+c.toNat
def numv (bs:List UInt8):Nat:=bs.foldl numG 0
theorem foldS_inl {α β τ:Type} (g:β->α->β) (fin:β->τ):∀ (l:List α) (b:β),zk (λa b=>(.inl (g b a):β⊕τ)) fin b l=fin (l.foldl g b)
 | [],_=>rfl
 | a::t,b=>foldS_inl g fin t (g b a)
theorem numG_lt (v:Nat) (c:UInt8) (i:Nat) (hv:v<256^i):numG v c<256^(i+1):=by
 have hc:=c.toNat_lt;unfold numG;rw [Nat.pow_succ];have:(v+1)*256<=256^i*256:=uf _ hv;omega
theorem pow4 {i:Nat} (h:i<=3):(256:Nat)^i<=16777216:=Nat.pow_le_pow_right (n:=256) (by omega) h
theorem foldl_lt:∀ (bs:List UInt8) (v i:Nat),v<256^i->bs.foldl numG v<256^(i+bs.length)
 | [],_,_,h=>h
 | c::t,v,i,h=>by
  have:=foldl_lt t (numG v c) (i+1) (numG_lt v c i h)
  rw [List.foldl_cons,List.length_cons,show i+(t.length+1)=i+1+t.length by omega];exact this
theorem numv_lt (bs:List UInt8):numv bs<256^bs.length:=by
 have:=foldl_lt bs 0 0 (by simp)
 rwa [Nat.zero_add] at this
theorem L98_eq (l bs:List UInt8) (hb:bs.length<=4):L98_0 (((),(0:Int),bs,((bs.length:Nat):Int),(0:Int),()),((l,()),()))=some (((),((numv bs:Nat):Int),()),((l,()),())):=by
 have hF:=zR;unfold L98_0
 refine (yC (f:=B98_0) (λ(v:Nat) i=>(((),(v:Int),bs,((bs.length:Nat):Int),(i:Int),()),((l,()),()))) bs (λa v=>.inl (numG v a)) (λv=>(((),(v:Int),()),((l,()),()))) (λv i=>v<256^i)
  (λv i a hv hi ha=>?_) (λv _=>?_) (by omega) (b:=0) (by simp)).trans ?_
 ·refine .inl ⟨_,rfl,numG_lt v a i hv,?_⟩;have hp:=pow4 (i:=i) (by omega);have d0:decide ((i:Int)<((bs.length:Nat):Int))=true:=zm (by omega);have d1:decide ((0:Int)<=(i:Int))=true:=zm (by omega);have w1:zh ((i:Int)+1)=((i+1:Nat):Int):=by rw [zV (by omega) (by omega)];rfl
  have w2:zh ((v:Int)*2^8)=((v*256:Nat):Int):=by rw [zV (by omega) (by omega)];omega
  have hc:=a.toNat_lt
  have o:wu .or .i64 ((v*256:Nat):Int) ((a.toNat:Nat):Int)=((numG v a:Nat):Int):=by
   rw [or64 _ _ (by omega) (by omega)]
   have e:v*256 ||| a.toNat=v*256+a.toNat:=by
    have:=Nat.two_pow_add_eq_or_of_lt (i:=8) hc v
    rw [Nat.mul_comm] at this;exact this.symm
   rw [e];rfl
  simp only [B98_0,d0,d1,yW,zI,yF,ha,w1,w2,o]
 ·simp only [B98_0,Int.lt_irrefl,xA,zK]
 ·rw [foldS_inl numG];rfl
theorem L87_eq (l bs:List UInt8) (off:Bool) (hb:bs.length<=4):L87_0 (((),(),(0:Int),(0:Int),()),((l,off,()),bs,()))=some (((),((numv bs:Nat):Int),()),((l,off,()),())):=by
 have hF:=zR;unfold L87_0
 refine (yC (f:=B87_0) (λ(v:Nat) i=>(((),(),(v:Int),(i:Int),()),((l,off,()),bs,()))) bs (λa v=>.inl (numG v a)) (λv=>(((),(v:Int),()),((l,off,()),()))) (λv i=>v<256^i)
  (λv i a hv hi ha=>?_) (λv _=>?_) (by omega) (b:=0) (by simp)).trans ?_
 ·refine .inl ⟨_,rfl,numG_lt v a i hv,?_⟩;have hp:=pow4 (i:=i) (by omega);have hc:=a.toNat_lt;have d0:decide ((i:Int)<((bs.length:Nat):Int))=true:=zm (by omega);have d1:decide ((0:Int)<=(i:Int))=true:=zm (by omega);have w1:zh ((i:Int)+1)=((i+1:Nat):Int):=by rw [zV (by omega) (by omega)];rfl
  have w2:zh ((256:Int)*(v:Int))=((v*256:Nat):Int):=by rw [zV (by omega) (by omega)];omega
  have w3:zh (((v*256:Nat):Int)+((a.toNat:Nat):Int))=((numG v a:Nat):Int):=by
   rw [zV (by omega) (by omega)];unfold numG;omega
  simp only [B87_0,d0,d1,yW,zI,zE,yF,ha,w1,w2,w3]
 ·simp only [B87_0,Int.lt_irrefl,xA,zK]
 ·rw [foldS_inl numG];rfl
def tak (n:Nat) (l:List UInt8):Option (List UInt8×List UInt8):=if l.length<n then none else some (l.take n,l.drop n)
def uP (n:Nat) (l:List UInt8):Option (Nat×List UInt8):=if l.length<n then none else some (numv (l.take n),l.drop n)
def xm (w:Nat) (l:List UInt8):Option (List UInt8×List UInt8):=(uP w l).bind λq=>tak q.1 q.2
def ltr1 (l:List UInt8):Option (yJ×List UInt8):=(uP 4 l).bind λu=>(uP 1 u.2).bind λf=>(xm 2 f.2).bind λb=>some (((u.1:Int),u8of (f.1:Int),b.1,()),b.2)
def wb:Nat->List UInt8->Option (List yJ×List UInt8)
 | 0,l=>some ([],l)
 | n+1,l=>(ltr1 l).bind λq=>(wb n q.2).bind λr=>some (q.1::r.1,r.2)
def tF (l:List UInt8):Option (Bx×List UInt8):=(xm 1 l).bind λn=>(uP 4 n.2).bind λv=>(uP 4 v.2).bind λx=>(uP 1 x.2).bind λc=>(wb c.1 c.2).bind λq=>some ((n.1,(v.1:Int),(x.1:Int),q.1,()),q.2)
def yl:Nat->List UInt8->Option (List Bx×List UInt8)
 | 0,l=>some ([],l)
 | n+1,l=>(tF l).bind λq=>(yl n q.2).bind λr=>some (q.1::r.1,r.2)
def vw (l:List UInt8):Option (ww×List UInt8):=(xm 1 l).bind λn=>(uP 4 n.2).bind λv=>(uP 1 v.2).bind λc=>(yl c.1 c.2).bind λq=>some ((n.1,(v.1:Int),q.1,()),q.2)
theorem tB {n:Nat} {l:List UInt8} {q:Nat×List UInt8} (h:uP n l=some q):q.1<256^n:=by
 unfold uP at h;split at h
 ·cases h
 ·cases h
  have:=numv_lt (l.take n)
  rwa [xG,Nat.min_eq_left (by omega)] at this
theorem xL {n:Nat} {l:List UInt8} {q:Nat×List UInt8} (hn:n<=4) (h:uP n l=some q):F98 (((),(n:Int),()),((l,()),()))=some (.inl (q.1:Int),((q.2,()),())):=by
 have e:=uA l n;unfold uP at h;split at h
 ·cases h
 ·rename_i h'
  cases h;rw [if_neg h'] at e;have ht:(l.take n).length=n:=by rw [xG];omega
  simp only [F98,e,zE,L98_eq (l.drop n) (l.take n) (by omega)]
theorem wz {n:Nat} {l:List UInt8} (h:uP n l=none):∃ l',F98 (((),(n:Int),()),((l,()),()))=some (.inr (3,()),((l',()),())):=by
 have e:=uA l n;unfold uP at h;split at h
 ·rename_i h';rw [if_pos h'] at e;exact ⟨l,by simp only [F98,e,zE]⟩
 ·cases h
theorem F97_some {l:List UInt8} {q:List UInt8×List UInt8} (h:xm 1 l=some q):F97 (((),()),((l,()),()))=some (.inl q.1,((q.2,()),())):=by
 unfold xm at h
 cases h1:uP 1 l with
 | none=>rw [h1] at h;cases h
 | some r =>
  rw [h1,zE] at h;have e1:=xL (by omega) h1;rw [show ((1:Nat):Int)=1 from rfl] at e1;have e2:=uA r.2 r.1;unfold tak at h;split at h
  ·cases h
  ·rename_i h'
   cases h;rw [if_neg h'] at e2;simp only [F97,e1,zE,e2]
theorem F97_none {l:List UInt8} (h:xm 1 l=none):∃ l',F97 (((),()),((l,()),()))=some (.inr (3,()),((l',()),())):=by
 unfold xm at h
 cases h1:uP 1 l with
 | none =>
  obtain ⟨l',e1⟩:=wz h1;rw [show ((1:Nat):Int)=1 from rfl] at e1;exact ⟨l',by simp only [F97,e1,zE]⟩
 | some r =>
  rw [h1,zE] at h;have e1:=xL (by omega) h1;rw [show ((1:Nat):Int)=1 from rfl] at e1;have e2:=uA r.2 r.1;unfold tak at h;split at h
  ·rename_i h';rw [if_pos h'] at e2;exact ⟨r.2,by simp only [F97,e1,zE,e2]⟩
  ·cases h
theorem F99_some {l:List UInt8} {q:List UInt8×List UInt8} (h:xm 2 l=some q):F99 (((),()),((l,()),()))=some (.inl q.1,((q.2,()),())):=by
 unfold xm at h
 cases h1:uP 2 l with
 | none=>rw [h1] at h;cases h
 | some r =>
  rw [h1,zE] at h;have hr:=tB h1;have e1:=xL (by omega) h1;rw [show ((2:Nat):Int)=2 from rfl] at e1;have e2:=uA r.2 r.1;unfold tak at h;split at h
  ·cases h
  ·rename_i h'
   cases h;rw [if_neg h'] at e2;have e3:=F53_eq' (r.2.take r.1) (by rw [xG];omega);simp only [F99,e1,zE,e2,e3]
theorem F99_none {l:List UInt8} (h:xm 2 l=none):∃ l',F99 (((),()),((l,()),()))=some (.inr (3,()),((l',()),())):=by
 unfold xm at h
 cases h1:uP 2 l with
 | none =>
  obtain ⟨l',e1⟩:=wz h1;rw [show ((2:Nat):Int)=2 from rfl] at e1;exact ⟨l',by simp only [F99,e1,zE]⟩
 | some r =>
  rw [h1,zE] at h;have e1:=xL (by omega) h1;rw [show ((2:Nat):Int)=2 from rfl] at e1;have e2:=uA r.2 r.1;unfold tak at h;split at h
  ·rename_i h';rw [if_pos h'] at e2;exact ⟨r.2,by simp only [F99,e1,zE,e2]⟩
  ·cases h
theorem ltrs_split {n i:Nat} {l l':List UInt8} {ls:List yJ} (hi:i<n) {a:yJ} {l2:List UInt8} (h1:ltr1 l'=some (a,l2))
  (h:wb n l=(wb (n-i) l').bind λq=>some (ls++q.1,q.2)):wb n l=(wb (n-(i+1)) l2).bind λq=>some ((ls++[a])++q.1,q.2):=by
 rw [h,show n-i=(n-(i+1))+1 by omega];simp only [wb,h1,zE]
 cases wb (n-(i+1)) l2 <;> simp
theorem ltrs_stop {n i:Nat} {l l':List UInt8} {ls:List yJ} (hi:i<n) (h1:ltr1 l'=none)
  (h:wb n l=(wb (n-i) l').bind λq=>some (ls++q.1,q.2)):wb n l=none:=by
 rw [h,show n-i=(n-(i+1))+1 by omega];simp only [wb,h1,Option.bind_none]
theorem ltrs_end {n:Nat} {l l':List UInt8} {ls:List yJ}
  (h:wb n l=(wb (n-n) l').bind λq=>some (ls++q.1,q.2)):wb n l=some (ls,l'):=by
 rw [h,Nat.sub_self];simp [wb]
theorem boxs_split {n i:Nat} {l l':List UInt8} {ls:List Bx} (hi:i<n) {a:Bx} {l2:List UInt8} (h1:tF l'=some (a,l2))
  (h:yl n l=(yl (n-i) l').bind λq=>some (ls++q.1,q.2)):yl n l=(yl (n-(i+1)) l2).bind λq=>some ((ls++[a])++q.1,q.2):=by
 rw [h,show n-i=(n-(i+1))+1 by omega];simp only [yl,h1,zE]
 cases yl (n-(i+1)) l2 <;> simp
theorem uF {n i:Nat} {l l':List UInt8} {ls:List Bx} (hi:i<n) (h1:tF l'=none)
  (h:yl n l=(yl (n-i) l').bind λq=>some (ls++q.1,q.2)):yl n l=none:=by
 rw [h,show n-i=(n-(i+1))+1 by omega];simp only [yl,h1,Option.bind_none]
theorem boxs_end {n:Nat} {l l':List UInt8} {ls:List Bx}
  (h:yl n l=(yl (n-n) l').bind λq=>some (ls++q.1,q.2)):yl n l=some (ls,l'):=by
 rw [h,Nat.sub_self];simp [yl]
theorem L96_1_eq (l:List UInt8) (N:NmT) (bxs:List Bx) (B:BnT) (c0 i0:Int) (cnt:Nat) (hc:cnt<=255) :
  ∃ r,L96_1 (((),(),(),c0,i0,(cnt:Int),(0:Int),()),((l,()),N,bxs,B,([]:List yJ),()))=some r /\
   match r with
   | .inl q=>∃ l' ls',wb cnt l=some (ls',l')/\q=(((),(),(),c0,i0,()),((l',()),N,bxs,B,ls',()))
   | .inr q=>wb cnt l=none/\∃ l',q=(((3,()),()),((l',()),N,bxs,())):=by
 obtain ⟨nn,nv,⟨⟩,⟨⟩⟩:=N;obtain ⟨bn,bv,bx,⟨⟩,⟨⟩⟩:=B;have hF:=zR;unfold L96_1
 refine z6 (f:=u0) (λp=>∃ (i:Nat) (l':List UInt8) (ls:List yJ),i<=cnt/\ls.length<=i/\p=(((),(),(),c0,i0,(cnt:Int),(i:Int),()),((l',()),(nn,nv,(),()),bxs,(bn,bv,bx,(),()),ls,()))/\wb cnt l=(wb (cnt-i) l').bind λq=>some (ls++q.1,q.2)) (λp=>cnt-p.1.2.2.2.2.2.2.1.toNat) _ ?_
  ⟨0,l,[],Nat.zero_le _,Nat.le_refl _,rfl,by rw [Nat.sub_zero];cases wb cnt l <;> simp⟩ (by simp only;omega)
 rintro p ⟨i,l',ls,hi,hl,rfl,hq⟩;rcases Nat.lt_or_ge i cnt with h | h
 ·have d0:decide ((i:Int)<(cnt:Int))=true:=zm (by omega);have w1:zh ((i:Int)+1)=((i+1:Nat):Int):=by rw [zV (by omega) (by omega)];rfl
  cases h1:uP 4 l' with
  | none =>
   obtain ⟨l1,e1⟩:=wz h1;rw [show ((4:Nat):Int)=4 from rfl] at e1;exact .inr ⟨.inr (((3,()),()),((l1,()),(nn,nv,(),()),bxs,())),by simp only [u0,d0,zI,e1,zE],ltrs_stop h (by simp [ltr1,h1]) hq,_,rfl⟩
  | some r1 =>
  have e1:=xL (by omega) h1;rw [show ((4:Nat):Int)=4 from rfl] at e1
  cases h2:uP 1 r1.2 with
  | none =>
   obtain ⟨l1,e2⟩:=wz h2;rw [show ((1:Nat):Int)=1 from rfl] at e2;exact .inr ⟨.inr (((3,()),()),((l1,()),(nn,nv,(),()),bxs,())),by simp only [u0,d0,zI,e1,zE,e2],ltrs_stop h (by simp [ltr1,h1,h2]) hq,_,rfl⟩
  | some r2 =>
  have e2:=xL (by omega) h2;rw [show ((1:Nat):Int)=1 from rfl] at e2
  cases h3:xm 2 r2.2 with
  | none =>
   obtain ⟨l1,e3⟩:=F99_none h3;exact .inr ⟨.inr (((3,()),()),((l1,()),(nn,nv,(),()),bxs,())),by simp only [u0,d0,zI,e1,zE,e2,e3],ltrs_stop h (by simp [ltr1,h1,h2,h3]) hq,_,rfl⟩
  | some r3 =>
  have e3:=F99_some h3;have hb:∀ x:yJ,zH (ls.length+[x].length) 40=true:=λx=>zl (by simp only [lSg];omega)
  refine .inl ⟨_,by simp only [u0,d0,zI,e1,zE,e2,e3,hb,w1];rfl,⟨i+1,r3.2,_,h,?_,rfl,ltrs_split h (by simp [ltr1,h1,h2,h3]) hq⟩,?_⟩
  ·rw [xe,lSg];omega
  ·simp only;omega
 ·have hi':i=cnt:=by omega
  subst hi';exact .inr ⟨.inl (((),(),(),c0,i0,()),((l',()),(nn,nv,(),()),bxs,(bn,bv,bx,(),()),ls,())),by simp only [u0,Int.lt_irrefl,xA,zK],_,_,ltrs_end hq,rfl⟩
theorem L96_0_eq (l:List UInt8) (N:NmT) (cnt:Nat) (hc:cnt<=255) :
  ∃ r,L96_0 (((),(),(cnt:Int),(0:Int),()),((l,()),N,([]:List Bx),()))=some r /\
   match r with
   | .inl q=>∃ l' ls',yl cnt l=some (ls',l')/\q=(((),(),()),((l',()),N,ls',()))
   | .inr q=>yl cnt l=none/\∃ l' ls',q=(((3,()),()),((l',()),N,ls',())):=by
 obtain ⟨nn,nv,⟨⟩,⟨⟩⟩:=N;have hF:=zR;unfold L96_0
 refine z6 (f:=vB) (λp=>∃ (i:Nat) (l':List UInt8) (ls:List Bx),i<=cnt/\ls.length<=i/\p=(((),(),(cnt:Int),(i:Int),()),((l',()),(nn,nv,(),()),ls,()))/\yl cnt l=(yl (cnt-i) l').bind λq=>some (ls++q.1,q.2)) (λp=>cnt-p.1.2.2.2.1.toNat) _ ?_
  ⟨0,l,[],Nat.zero_le _,Nat.le_refl _,rfl,by rw [Nat.sub_zero];cases yl cnt l <;> simp⟩ (by simp only;omega)
 rintro p ⟨i,l',ls,hi,hl,rfl,hq⟩;rcases Nat.lt_or_ge i cnt with h | h
 ·have d0:decide ((i:Int)<(cnt:Int))=true:=zm (by omega);have w1:zh ((i:Int)+1)=((i+1:Nat):Int):=by rw [zV (by omega) (by omega)];rfl
  cases h0:xm 1 l' with
  | none =>
   obtain ⟨l1,e0⟩:=F97_none h0;exact .inr ⟨.inr (((3,()),()),((l1,()),(nn,nv,(),()),ls,())),by simp only [vB,d0,zI,e0,zE],uF h (by simp [tF,h0]) hq,_,_,rfl⟩
  | some r0 =>
  have e0:=F97_some h0
  cases h1:uP 4 r0.2 with
  | none =>
   obtain ⟨l1,e1⟩:=wz h1;rw [show ((4:Nat):Int)=4 from rfl] at e1;exact .inr ⟨.inr (((3,()),()),((l1,()),(nn,nv,(),()),ls,())),by simp only [vB,d0,zI,e0,e1,zE],uF h (by simp [tF,h0,h1]) hq,_,_,rfl⟩
  | some r1 =>
  have e1:=xL (by omega) h1;rw [show ((4:Nat):Int)=4 from rfl] at e1
  cases h2:uP 4 r1.2 with
  | none =>
   obtain ⟨l1,e2⟩:=wz h2;rw [show ((4:Nat):Int)=4 from rfl] at e2;exact .inr ⟨.inr (((3,()),()),((l1,()),(nn,nv,(),()),ls,())),by simp only [vB,d0,zI,e0,e1,zE,e2],uF h (by simp [tF,h0,h1,h2]) hq,_,_,rfl⟩
  | some r2 =>
  have e2:=xL (by omega) h2;rw [show ((4:Nat):Int)=4 from rfl] at e2
  cases h3:uP 1 r2.2 with
  | none =>
   obtain ⟨l1,e3⟩:=wz h3;rw [show ((1:Nat):Int)=1 from rfl] at e3;exact .inr ⟨.inr (((3,()),()),((l1,()),(nn,nv,(),()),ls,())),by simp only [vB,d0,zI,e0,e1,zE,e2,e3],uF h (by simp [tF,h0,h1,h2,h3]) hq,_,_,rfl⟩
  | some r3 =>
  have e3:=xL (by omega) h3;rw [show ((1:Nat):Int)=1 from rfl] at e3;have hk:=tB h3;obtain ⟨r4,e4,h4⟩:=L96_1_eq r3.2 (nn,nv,(),()) ls (r0.1,(r1.1:Int),(r2.1:Int),(),()) (cnt:Int) (i:Int) r3.1 (by omega)
  cases r4 with
  | inr q =>
   obtain ⟨h5,l4,rfl⟩:=h4;exact .inr ⟨.inr (((3,()),()),((l4,()),(nn,nv,(),()),ls,())),by simp only [vB,d0,zI,e0,e1,zE,e2,e3,e4],uF h (by simp [tF,h0,h1,h2,h3,h5]) hq,_,_,rfl⟩
  | inl q =>
   obtain ⟨l4,ls4,h5,rfl⟩:=h4;have hb:∀ x:Bx,zH (ls.length+[x].length) 56=true:=λx=>zl (by simp only [lSg];omega)
   refine .inl ⟨_,by simp only [vB,d0,zI,e0,e1,zE,e2,e3,e4,hb,w1];rfl,⟨i+1,l4,_,h,?_,rfl,boxs_split h (by simp [tF,h0,h1,h2,h3,h5]) hq⟩,?_⟩
   ·rw [xe,lSg];omega
   ·simp only;omega
 ·have hi':i=cnt:=by omega
  subst hi';exact .inr ⟨.inl (((),(),()),((l',()),(nn,nv,(),()),ls,())),by simp only [vB,Int.lt_irrefl,xA,zK],_,_,boxs_end hq,rfl⟩
theorem rd_some {l:List UInt8} {u:ww} {l':List UInt8} (h:vw l=some (u,l')):vm l=u/\rdE l=if l'.length=0 then 0 else 4:=by
 unfold vm rdE rdR
 cases h0:xm 1 l with
 | none=>simp [vw,h0] at h
 | some r0 =>
 cases h1:uP 4 r0.2 with
 | none=>simp [vw,h0,h1] at h
 | some r1 =>
 cases h2:uP 1 r1.2 with
 | none=>simp [vw,h0,h1,h2] at h
 | some r2 =>
 have e0:=F97_some h0;have e1:=xL (by omega) h1;have e2:=xL (by omega) h2;rw [show ((4:Nat):Int)=4 from rfl] at e1;rw [show ((1:Nat):Int)=1 from rfl] at e2;have hk:=tB h2;obtain ⟨r4,e4,h4⟩:=L96_0_eq r2.2 (r0.1,(r1.1:Int),(),()) r2.1 (by omega)
 cases r4 with
 | inr q =>
  obtain ⟨h5,-⟩:=h4;simp [vw,h0,h1,h2,h5] at h
 | inl q =>
  obtain ⟨l4,ls4,h5,rfl⟩:=h4;simp only [vw,h0,h1,h2,h5,zE,y5,Prod.mk.injEq] at h;obtain ⟨rfl,rfl⟩:=h;simp only [F96,e0,e1,e2,e4,zE];exact ⟨trivial,trivial⟩
theorem rd_none {l:List UInt8} (h:vw l=none):rdE l=3:=by
 unfold rdE rdR
 cases h0:xm 1 l with
 | none =>
  obtain ⟨l1,e0⟩:=F97_none h0;simp only [F96,e0,zE]
 | some r0 =>
 have e0:=F97_some h0
 cases h1:uP 4 r0.2 with
 | none =>
  obtain ⟨l1,e1⟩:=wz h1;rw [show ((4:Nat):Int)=4 from rfl] at e1;simp only [F96,e0,e1,zE]
 | some r1 =>
 have e1:=xL (by omega) h1;rw [show ((4:Nat):Int)=4 from rfl] at e1
 cases h2:uP 1 r1.2 with
 | none =>
  obtain ⟨l1,e2⟩:=wz h2;rw [show ((1:Nat):Int)=1 from rfl] at e2;simp only [F96,e0,e1,e2,zE]
 | some r2 =>
 have e2:=xL (by omega) h2;rw [show ((1:Nat):Int)=1 from rfl] at e2;have hk:=tB h2;obtain ⟨r4,e4,h4⟩:=L96_0_eq r2.2 (r0.1,(r1.1:Int),(),()) r2.1 (by omega)
 cases r4 with
 | inr q =>
  obtain ⟨h5,l4,ls4,rfl⟩:=h4;simp only [F96,e0,e1,e2,e4,zE]
 | inl q =>
  obtain ⟨l4,ls4,h5,rfl⟩:=h4;simp [vw,h0,h1,h2,h5] at h
theorem F86_some {n:Nat} {l:List UInt8} {q:List UInt8×List UInt8} (hn:n<=100000) (h:tak n l=some q):F86 (((),(n:Int),()),((l,false,()),()))=some ((),((q.2,false,()),q.1,())):=by
 unfold tak at h;split at h
 ·cases h
 ·rename_i h'
  cases h;have c0:decide (((l.length:Nat):Int)<(n:Int))=false:=yv (by omega);have c1:decide ((0:Int)<=(n:Int))=true:=zm (by omega);have c2:decide ((n:Int)<=((l.length:Nat):Int))=true:=zm (by omega);have hb:zH (0+(l.take n).length) 1=true:=zl (by rw [xG];omega);simp only [F86,c0,Bool.or_self,zK,c1,c2,Int.le_refl,zd,yW,zI,yF,hb,zE,List.nil_append];rw [show (l.drop n).take (l.length-n)=l.drop n from List.take_of_length_le (by rw [sG];omega)]
theorem F86_none {n:Nat} {l:List UInt8} (h:tak n l=none):F86 (((),(n:Int),()),((l,false,()),()))=some ((),((l,true,()),[],())):=by
 unfold tak at h;split at h
 ·rename_i h';have c0:decide (((l.length:Nat):Int)<(n:Int))=true:=zm (by omega);simp only [F86,c0,Bool.or_true,zI]
 ·cases h
theorem xh (n:Int) (l:List UInt8):F86 (((),n,()),((l,true,()),()))=some ((),((l,true,()),[],())):=by
 simp only [F86,Bool.true_or,zI]
theorem wI {n:Nat} {l:List UInt8} {q:Nat×List UInt8} (hn:n<=4) (h:uP n l=some q):F87 (((),(n:Int),()),((l,false,()),()))=some ((q.1:Int),((q.2,false,()),())):=by
 unfold uP at h;split at h
 ·cases h
 ·rename_i h'
  cases h;have e:=F86_some (q:=(l.take n,l.drop n)) (n:=n) (l:=l) (by omega) (by unfold tak;rw [if_neg h']);have ht:(l.take n).length=n:=by rw [xG];omega
  simp only [F87,e,zE,L87_eq (l.drop n) (l.take n) false (by omega)]
theorem L87_nil (l:List UInt8) (off:Bool):L87_0 (((),(),(0:Int),(0:Int),()),((l,off,()),[],()))=some (((),(0:Int),()),((l,off,()),())):=L87_eq l [] off (Nat.zero_le _)
theorem wJ {n:Nat} {l:List UInt8} (h:uP n l=none):F87 (((),(n:Int),()),((l,false,()),()))=some (0,((l,true,()),())):=by
 have e:F86 (((),(n:Int),()),((l,false,()),()))=some ((),((l,true,()),[],())):=F86_none (by
  unfold uP at h;unfold tak;split at h
  ·rename_i h';rw [if_pos h']
  ·cases h)
 simp only [F87,e,zE,L87_nil]
theorem x9 (n:Int) (l:List UInt8):F87 (((),n,()),((l,true,()),()))=some (0,((l,true,()),())):=by
 simp only [F87,xh,zE,L87_nil]
abbrev BnU:Type:=Tx×Int×Int×Unit×Unit
abbrev stL (c0 i0:Int) (cnt i:Nat) (l:List UInt8) (off:Bool) (N:NmT) (B:BnU) (e5 e6:List Bx) (ls:List yJ) :
  ((Unit×Unit×Unit×Int×Int×Unit×Int×Int×Unit)×((Unit×Unit×Unit×Unit)×(List UInt8×Bool×Unit)×NmT×BnU×List Bx×List Bx×List yJ×Unit)) :=
 (((),(),(),c0,i0,(),(cnt:Int),(i:Int),()),(((),(),(),()),(l,off,()),N,B,e5,e6,ls,()))
theorem B62_1_go (c0 i0:Int) (cnt i:Nat) (l:List UInt8) (nn:Tx) (nv:Int) (bn:Tx) (bv bx:Int) (e5 e6:List Bx) (ls:List yJ) (h:i<cnt) (hc:cnt<=255) (hl:ls.length<=i) :
  ∃ a l2 off,B62_1 (stL c0 i0 cnt i l false (nn,nv,(),()) (bn,bv,bx,(),()) e5 e6 ls)=some (.inl (stL c0 i0 cnt (i+1) l2 off (nn,nv,(),()) (bn,bv,bx,(),()) e5 e6 (ls++[a]))) /\
   (off=false->ltr1 l=some (a,l2))/\(off=true->ltr1 l=none):=by
 have d0:decide ((i:Int)<(cnt:Int))=true:=zm (by omega);have w1:zh ((i:Int)+1)=((i+1:Nat):Int):=by rw [zV (by omega) (by omega)];rfl
 have hb:∀ x:yJ,zH (ls.length+[x].length) 40=true:=λx=>zl (by simp only [lSg];omega)
 cases h1:uP 4 l with
 | none =>
  have e1:=wJ h1;rw [show ((4:Nat):Int)=4 from rfl] at e1;exact ⟨_,_,true,by simp only [stL,B62_1,d0,xf,yW,zI,e1,zE,x9,xh,hb,w1];rfl,nofun,λ_=>by simp [ltr1,h1]⟩
 | some r1 =>
 have e1:=wI (by omega) h1;rw [show ((4:Nat):Int)=4 from rfl] at e1
 cases h2:uP 1 r1.2 with
 | none =>
  have e2:=wJ h2;rw [show ((1:Nat):Int)=1 from rfl] at e2;exact ⟨_,_,true,by simp only [stL,B62_1,d0,xf,yW,zI,e1,e2,zE,x9,xh,hb,w1];rfl,nofun,λ_=>by simp [ltr1,h1,h2]⟩
 | some r2 =>
 have e2:=wI (by omega) h2;rw [show ((1:Nat):Int)=1 from rfl] at e2
 cases h3:uP 2 r2.2 with
 | none =>
  have e3:=wJ h3;rw [show ((2:Nat):Int)=2 from rfl] at e3;exact ⟨_,_,true,by simp only [stL,B62_1,d0,xf,yW,zI,e1,e2,e3,zE,xh,hb,w1];rfl,nofun,λ_=>by simp [ltr1,xm,h1,h2,h3]⟩
 | some r3 =>
 have e3:=wI (by omega) h3;rw [show ((2:Nat):Int)=2 from rfl] at e3;have hk:=tB h3
 cases h4:tak r3.1 r3.2 with
 | none =>
  have e4:=F86_none h4;exact ⟨_,_,true,by simp only [stL,B62_1,d0,xf,yW,zI,e1,e2,e3,e4,zE,hb,w1];rfl,nofun,λ_=>by simp [ltr1,xm,h1,h2,h3,h4]⟩
 | some r4 =>
  have e4:=F86_some (by omega) h4;exact ⟨_,_,false,by simp only [stL,B62_1,d0,xf,yW,zI,e1,e2,e3,e4,zE,hb,w1];rfl,λ_=>by simp [ltr1,xm,h1,h2,h3,h4],nofun⟩
theorem L62_1_eq (l:List UInt8) (N:NmT) (B:BnU) (c0 i0:Int) (e5 e6:List Bx) (cnt:Nat) (hc:cnt<=255) :
  ∃ l' off ls',L62_1 (stL c0 i0 cnt 0 l false N B e5 e6 [])=some (((),(),(),c0,i0,(),()),(((),(),(),()),(l',off,()),N,B,e5,e6,ls',())) /\
   (off=false->wb cnt l=some (ls',l'))/\(off=true->wb cnt l=none):=by
 obtain ⟨nn,nv,⟨⟩,⟨⟩⟩:=N;obtain ⟨bn,bv,bx,⟨⟩,⟨⟩⟩:=B;have hF:=zR
 suffices h:∃ r,L62_1 (stL c0 i0 cnt 0 l false (nn,nv,(),()) (bn,bv,bx,(),()) e5 e6 [])=some r/\∃ l' off ls',r=(((),(),(),c0,i0,(),()),(((),(),(),()),(l',off,()),(nn,nv,(),()),(bn,bv,bx,(),()),e5,e6,ls',())) /\
   (off=false->wb cnt l=some (ls',l'))/\(off=true->wb cnt l=none) by
  obtain ⟨r,h1,l',off,ls',rfl,h2⟩:=h;exact ⟨l',off,ls',h1,h2⟩
 unfold L62_1
 refine z6 (f:=B62_1) (λp=>∃ (i:Nat) (l':List UInt8) (off:Bool) (ls:List yJ),i<=cnt/\ls.length<=i/\p=stL c0 i0 cnt i l' off (nn,nv,(),()) (bn,bv,bx,(),()) e5 e6 ls /\
   (off=false->wb cnt l=(wb (cnt-i) l').bind λq=>some (ls++q.1,q.2))/\(off=true->wb cnt l=none)) (λp=>cnt-p.1.2.2.2.2.2.2.2.1.toNat) _ ?_
  ⟨0,l,false,[],Nat.zero_le _,Nat.le_refl _,rfl,λ_=>by rw [Nat.sub_zero];cases wb cnt l <;> simp,nofun⟩ (by simp only;omega)
 rintro p ⟨i,l',off,ls,hi,hl,rfl,h1,h2⟩
 cases off with
 | true =>
  refine .inr ⟨_,?_,l',true,ls,rfl,nofun,λ_=>h2 rfl⟩;simp only [B62_1,yM,Bool.and_false,zK]
 | false =>
  rcases Nat.lt_or_ge i cnt with h | h
  ·obtain ⟨a,l2,off,e,h3,h4⟩:=B62_1_go c0 i0 cnt i l' nn nv bn bv bx e5 e6 ls h hc hl;refine .inl ⟨_,e,⟨i+1,l2,off,ls++[a],h,by rw [xe,lSg];omega,rfl,λho=>?_,λho=>?_⟩,?_⟩
   ·exact ltrs_split h (h3 ho) (h1 rfl)
   ·exact ltrs_stop h (h4 ho) (h1 rfl)
   ·simp only [];omega
  ·have hi':i=cnt:=by omega
   subst hi';refine .inr ⟨_,?_,l',false,ls,rfl,λ_=>ltrs_end (h1 rfl),nofun⟩;simp only [B62_1,Int.lt_irrefl,xA,Bool.false_and,zK]
abbrev stB (cnt i:Nat) (l:List UInt8) (off:Bool) (N:NmT) (e5 e6:List Bx) :
  ((Unit×Unit×Unit×Int×Int×Unit)×((Unit×Unit×Unit×Unit)×(List UInt8×Bool×Unit)×NmT×List Bx×List Bx×Unit)) :=
 (((),(),(),(cnt:Int),(i:Int),()),(((),(),(),()),(l,off,()),N,e5,e6,()))
theorem B62_0_go (cnt i:Nat) (l:List UInt8) (nn:Tx) (nv:Int) (e5 ls:List Bx) (h:i<cnt) (hc:cnt<=255) (hl:ls.length<=i) :
  ∃ a l2 off,tg (stB cnt i l false (nn,nv,(),()) e5 ls)=some (.inl (stB cnt (i+1) l2 off (nn,nv,(),()) e5 (ls++[a]))) /\
   (off=false->tF l=some (a,l2))/\(off=true->tF l=none):=by
 have d0:decide ((i:Int)<(cnt:Int))=true:=zm (by omega);have w1:zh ((i:Int)+1)=((i+1:Nat):Int):=by rw [zV (by omega) (by omega)];rfl
 have hb:∀ x:Bx,zH (ls.length+[x].length) 56=true:=λx=>zl (by simp only [lSg];omega)
 have hz:∀ (l:List UInt8) (B:BnU),L62_1 (((),(),(),(cnt:Int),(i:Int),(),(0:Int),(0:Int),()),(((),(),(),()),(l,true,()),(nn,nv,(),()),B,e5,ls,([]:List yJ),()))=some (((),(),(),(cnt:Int),(i:Int),(),()),(((),(),(),()),(l,true,()),(nn,nv,(),()),B,e5,ls,[],())):=λl B=>by
  unfold L62_1 zY;have:xk=(xk-1)+1:=by have:=zR;omega
  rw [this,iter];simp only [B62_1,Int.lt_irrefl,xA,Bool.false_and,zK]
 cases h0:uP 1 l with
 | none =>
  have e0:=wJ h0;rw [show ((1:Nat):Int)=1 from rfl] at e0;exact ⟨_,_,true,by simp only [stB,tg,d0,xf,yW,zI,e0,zE,x9,xh,hz,hb,w1];rfl,nofun,λ_=>by simp [tF,xm,h0]⟩
 | some r0 =>
 have e0:=wI (by omega) h0;rw [show ((1:Nat):Int)=1 from rfl] at e0;have hk0:=tB h0
 cases h1:tak r0.1 r0.2 with
 | none =>
  have e1:=F86_none h1;exact ⟨_,_,true,by simp only [stB,tg,d0,xf,yW,zI,e0,e1,zE,x9,hz,hb,w1];rfl,nofun,λ_=>by simp [tF,xm,h0,h1]⟩
 | some r1 =>
 have e1:=F86_some (by omega) h1
 cases h2:uP 4 r1.2 with
 | none =>
  have e2:=wJ h2;rw [show ((4:Nat):Int)=4 from rfl] at e2;exact ⟨_,_,true,by simp only [stB,tg,d0,xf,yW,zI,e0,e1,e2,zE,x9,hz,hb,w1];rfl,nofun,λ_=>by simp [tF,xm,h0,h1,h2]⟩
 | some r2 =>
 have e2:=wI (by omega) h2;rw [show ((4:Nat):Int)=4 from rfl] at e2
 cases h3:uP 4 r2.2 with
 | none =>
  have e3:=wJ h3;rw [show ((4:Nat):Int)=4 from rfl] at e3;exact ⟨_,_,true,by simp only [stB,tg,d0,xf,yW,zI,e0,e1,e2,e3,zE,x9,hz,hb,w1];rfl,nofun,λ_=>by simp [tF,xm,h0,h1,h2,h3]⟩
 | some r3 =>
 have e3:=wI (by omega) h3;rw [show ((4:Nat):Int)=4 from rfl] at e3
 cases h4:uP 1 r3.2 with
 | none =>
  have e4:=wJ h4;rw [show ((1:Nat):Int)=1 from rfl] at e4;exact ⟨_,_,true,by simp only [stB,tg,d0,xf,yW,zI,e0,e1,e2,e3,e4,zE,hz,hb,w1];rfl,nofun,λ_=>by simp [tF,xm,h0,h1,h2,h3,h4]⟩
 | some r4 =>
 have e4:=wI (by omega) h4;rw [show ((1:Nat):Int)=1 from rfl] at e4;have hk:=tB h4;obtain ⟨l5,off,ls5,e5',h5,h6⟩:=L62_1_eq r4.2 (nn,nv,(),()) (r1.1,(r2.1:Int),(r3.1:Int),(),()) (cnt:Int) (i:Int) e5 ls r4.1 (by omega);simp only [stL] at e5';rw [show ((0:Nat):Int)=0 from rfl] at e5';exact ⟨_,_,off,by simp only [stB,tg,d0,xf,yW,zI,e0,e1,e2,e3,e4,e5',zE,hb,w1];rfl,λho=>by simp [tF,xm,h0,h1,h2,h3,h4,h5 ho],λho=>by simp [tF,xm,h0,h1,h2,h3,h4,h6 ho]⟩
theorem L62_0_eq (l:List UInt8) (N:NmT) (e5:List Bx) (cnt:Nat) (hc:cnt<=255) :
  ∃ l' off ls',L62_0 (stB cnt 0 l false N e5 [])=some (((),(),(),()),(((),(),(),()),(l',off,()),N,e5,ls',())) /\
   (off=false->yl cnt l=some (ls',l'))/\(off=true->yl cnt l=none):=by
 obtain ⟨nn,nv,⟨⟩,⟨⟩⟩:=N;have hF:=zR
 suffices h:∃ r,L62_0 (stB cnt 0 l false (nn,nv,(),()) e5 [])=some r/\∃ l' off ls',r=(((),(),(),()),(((),(),(),()),(l',off,()),(nn,nv,(),()),e5,ls',())) /\
   (off=false->yl cnt l=some (ls',l'))/\(off=true->yl cnt l=none) by
  obtain ⟨r,h1,l',off,ls',rfl,h2⟩:=h;exact ⟨l',off,ls',h1,h2⟩
 unfold L62_0
 refine z6 (f:=tg) (λp=>∃ (i:Nat) (l':List UInt8) (off:Bool) (ls:List Bx),i<=cnt/\ls.length<=i/\p=stB cnt i l' off (nn,nv,(),()) e5 ls /\
   (off=false->yl cnt l=(yl (cnt-i) l').bind λq=>some (ls++q.1,q.2))/\(off=true->yl cnt l=none)) (λp=>cnt-p.1.2.2.2.2.1.toNat) _ ?_
  ⟨0,l,false,[],Nat.zero_le _,Nat.le_refl _,rfl,λ_=>by rw [Nat.sub_zero];cases yl cnt l <;> simp,nofun⟩ (by simp only;omega)
 rintro p ⟨i,l',off,ls,hi,hl,rfl,h1,h2⟩
 cases off with
 | true =>
  refine .inr ⟨_,?_,l',true,ls,rfl,nofun,λ_=>h2 rfl⟩;simp only [tg,yM,Bool.and_false,zK]
 | false =>
  rcases Nat.lt_or_ge i cnt with h | h
  ·obtain ⟨a,l2,off,e,h3,h4⟩:=B62_0_go cnt i l' nn nv e5 ls h hc hl;refine .inl ⟨_,e,⟨i+1,l2,off,ls++[a],h,by rw [xe,lSg];omega,rfl,λho=>?_,λho=>?_⟩,?_⟩
   ·exact boxs_split h (h3 ho) (h1 rfl)
   ·exact uF h (h4 ho) (h1 rfl)
   ·simp only [];omega
  ·have hi':i=cnt:=by omega
   subst hi';refine .inr ⟨_,?_,l',false,ls,rfl,λ_=>boxs_end (h1 rfl),nofun⟩;simp only [tg,Int.lt_irrefl,xA,Bool.false_and,zK]
noncomputable def took (l:List UInt8):ww×Int :=
 match vw l with
 | none=>(([],0,[],()),3)
 | some (u,r)=>if r.length=0 then (match F44 ((u,()),()) with | some (e,_)=>if e=0 then (u,0) else (([],0,[],()),e) | none=>(([],0,[],()),0)) else (([],0,[],()),4)
theorem txt_le {w:Nat} {l:List UInt8} {q:List UInt8×List UInt8} (h:xm w l=some q):q.1.length<256^w:=by
 unfold xm at h
 cases h1:uP w l with
 | none=>rw [h1] at h;cases h
 | some r =>
  have:=tB h1
  rw [h1,zE] at h;unfold tak at h;split at h
  ·cases h
  ·cases h;rw [xG];omega
theorem box_le {l:List UInt8} {b:Bx} {r:List UInt8} (h:tF l=some (b,r)):b.1.length<256:=by
 unfold tF at h
 cases h0:xm 1 l with
 | none=>rw [h0] at h;cases h
 | some n =>
  have:=txt_le h0
  rw [h0,zE] at h
  cases h1:uP 4 n.2 with
  | none=>rw [h1] at h;cases h
  | some v =>
   rw [h1,zE] at h
   cases h2:uP 4 v.2 with
   | none=>rw [h2] at h;cases h
   | some x =>
    rw [h2,zE] at h
    cases h3:uP 1 x.2 with
    | none=>rw [h3] at h;cases h
    | some c =>
     rw [h3,zE] at h
     cases h4:wb c.1 c.2 with
     | none=>rw [h4] at h;cases h
     | some q =>
      rw [h4,zE] at h
      cases h;exact this
theorem boxs_le:∀ (n:Nat) {l:List UInt8} {bs:List Bx} {r:List UInt8},yl n l=some (bs,r)->∀ b∈bs,b.1.length<256
 | 0,l,bs,r,h,b,hb=>by
  cases h
  cases hb
 | n+1,l,bs,r,h,b,hb=>by
  simp only [yl] at h
  cases h1:tF l with
  | none=>rw [h1] at h;cases h
  | some q =>
   rw [h1,zE] at h
   cases h2:yl n q.2 with
   | none=>rw [h2] at h;cases h
   | some s =>
    rw [h2,zE] at h
    cases h;rcases List.mem_cons.1 hb with rfl | hb
    ·exact box_le h1
    ·exact boxs_le n h2 b hb
theorem usr_le {l:List UInt8} {u:ww} {r:List UInt8} (h:vw l=some (u,r)):u.1.length<256/\∀ b∈u.2.2.1,b.1.length<256:=by
 unfold vw at h
 cases h0:xm 1 l with
 | none=>rw [h0] at h;cases h
 | some n =>
  have:=txt_le h0
  rw [h0,zE] at h
  cases h1:uP 4 n.2 with
  | none=>rw [h1] at h;cases h
  | some v =>
   rw [h1,zE] at h
   cases h2:uP 1 v.2 with
   | none=>rw [h2] at h;cases h
   | some c =>
    rw [h2,zE] at h
    cases h3:yl c.1 c.2 with
    | none=>rw [h3] at h;cases h
    | some q =>
     rw [h3,zE] at h
     cases h;exact ⟨this,boxs_le _ h3⟩
theorem F75_took (l:List UInt8):F75 ((l,()),())=some (((took l).1,(took l).2,()),()):=by
 have hok:=(rd_ok l).1;unfold took
 cases h:vw l with
 | none =>
  have e:=rd_none h;simp only [F75,hok,zI,e,yv (show ¬(3:Int)=0 by omega),zK,zE,xf]
 | some q =>
  obtain ⟨u,r⟩:=q;obtain ⟨e1,e2⟩:=rd_some h;by_cases hr:r.length=0
  ·rw [if_pos hr] at e2;obtain ⟨e,h4,-⟩:=F44_ex u (Nat.le_trans (Nat.le_of_lt (usr_le h).1) (by decide));have hu:((vm l).1,(vm l).2.1,(vm l).2.2.1,())=u:=by rw [e1]
   simp only [F75,hok,zI,e2,zd,hu,h4,zE,hr,↓reduceIte];by_cases he:e=0
   ·subst he;simp []
   ·simp [he]
  ·rw [if_neg hr] at e2;simp only [F75,hok,zI,e2,yv (show ¬(4:Int)=0 by omega),zK,zE,xf,hr,↓reduceIte]
theorem F62_took (l:List UInt8):F62 ((l,()),())=some ((((took l).1.1,(took l).1.2.1,(),()),(took l).2,()),((took l).1.2.2.1,())):=by
 unfold took;have key:∀ (l5:List UInt8) (N:NmT) (bs:List Bx) (off:Bool),∃ x:Unit,x=():=λ_ _ _ _=>⟨(),rfl⟩
 have hz:∀ (l:List UInt8) (N:NmT),L62_0 (((),(),(),(0:Int),(0:Int),()),(((),(),(),()),(l,true,()),N,([]:List Bx),([]:List Bx),()))=some (((),(),(),()),(((),(),(),()),(l,true,()),N,[],[],())):=λl N=>by
  unfold L62_0 zY;have:xk=(xk-1)+1:=by have:=zR;omega
  rw [this,iter];simp only [tg,Int.lt_irrefl,xA,Bool.false_and,zK]
 cases h0:uP 1 l with
 | none =>
  have e0:=wJ h0;rw [show ((1:Nat):Int)=1 from rfl] at e0;have hu:vw l=none:=by simp [vw,xm,h0]
  simp only [F62,e0,zE,xh,x9,hz,zI,hu]
 | some r0 =>
 have e0:=wI (by omega) h0;rw [show ((1:Nat):Int)=1 from rfl] at e0;have hk0:=tB h0
 cases h1:tak r0.1 r0.2 with
 | none =>
  have e1:=F86_none h1;have hu:vw l=none:=by simp [vw,xm,h0,h1]
  simp only [F62,e0,e1,zE,x9,hz,zI,hu]
 | some r1 =>
 have e1:=F86_some (by omega) h1
 cases h2:uP 4 r1.2 with
 | none =>
  have e2:=wJ h2;rw [show ((4:Nat):Int)=4 from rfl] at e2;have hu:vw l=none:=by simp [vw,xm,h0,h1,h2]
  simp only [F62,e0,e1,e2,zE,x9,hz,zI,hu]
 | some r2 =>
 have e2:=wI (by omega) h2;rw [show ((4:Nat):Int)=4 from rfl] at e2
 cases h3:uP 1 r2.2 with
 | none =>
  have e3:=wJ h3;rw [show ((1:Nat):Int)=1 from rfl] at e3;have hu:vw l=none:=by simp [vw,xm,h0,h1,h2,h3]
  simp only [F62,e0,e1,e2,e3,zE,hz,zI,hu]
 | some r3 =>
 have e3:=wI (by omega) h3;rw [show ((1:Nat):Int)=1 from rfl] at e3;have hk:=tB h3;obtain ⟨l5,off,bs,e5,h5,h6⟩:=L62_0_eq r3.2 (r1.1,(r2.1:Int),(),()) [] r3.1 (by omega);simp only [stB] at e5;rw [show ((0:Nat):Int)=0 from rfl] at e5
 cases off with
 | true =>
  have hu:vw l=none:=by simp [vw,xm,h0,h1,h2,h3,h6 rfl]
  simp only [F62,e0,e1,e2,e3,e5,zE,zI,hu]
 | false =>
  have hu:vw l=some ((r1.1,(r2.1:Int),bs,()),l5):=by simp [vw,xm,h0,h1,h2,h3,h5 rfl]
  have hle:=usr_le hu;have e6:=F13_F44 (r1.1,(r2.1:Int),bs,()) (Nat.le_trans (Nat.le_of_lt hle.1) (by decide)) (λb hb=>Nat.le_trans (Nat.le_of_lt (hle.2 b hb)) (by decide));obtain ⟨e,e7,-⟩:=F44_ex (r1.1,(r2.1:Int),bs,()) (Nat.le_trans (Nat.le_of_lt hle.1) (by decide));rw [e7] at e6;by_cases hr:l5.length=0
  ·have c0:decide ((0:Int)<((l5.length:Nat):Int))=false:=yv (by omega);simp only [F62,e0,e1,e2,e3,e5,zE,zK,e6,hu,hr,↓reduceIte,e7];by_cases he:e=0
   ·subst he;simp
   ·simp [he]
  ·have c0:decide ((0:Int)<((l5.length:Nat):Int))=true:=zm (by omega);simp only [F62,e0,e1,e2,e3,e5,zE,zK,c0,zI,hu,hr,↓reduceIte]
theorem not_nil (s:Tx):decide ((0:Int)<((s.length:Nat):Int))=!(decide (s=([]:List UInt8))):=by
 cases s
 ·rfl
 ·simp
theorem zG (c:UInt8):decide (((c.toNat:Nat):Int)=0)=decide (c=0):=by
 rw [decide_eq_decide];refine ⟨λh=>UInt8.toNat_inj.1 (by rw [show UInt8.toNat 0=0 from rfl];omega),λh=>by subst h;rfl⟩
theorem zM (c:UInt8):(decide (c=0)||decide (c.toNat<UInt8.toNat 32))=(decide ((0:Int)<=((c.toNat:Nat):Int))&&decide (((c.toNat:Nat):Int)<=31)):=by
 have z:UInt8.toNat 32=32:=rfl;rw [z,Bool.eq_iff_iff];simp only [Bool.or_eq_true,yR,xX];constructor
 ·rintro (h | h)
  ·subst h;decide
  ·omega
 ·intro h;right;omega
theorem zF (n:Int):(decide (n=0)||(decide (n=1)||decide (n=2)))=(decide (0<=n)&&decide (n<=2)):=by
 rw [Bool.eq_iff_iff];simp only [Bool.or_eq_true,yR,xX];omega
theorem zL (n:Int):(decide (n=0)||(decide (0<n)&&decide (n<4)))=(decide (0<=n)&&decide (n<=3)):=by
 rw [Bool.eq_iff_iff];simp only [Bool.or_eq_true,yR,xX];omega
theorem F94_eq (a:Bool) (n x y:Int):F94 ((a,n,x,y,()),())=some (cond a (decide (x<=n)&&decide (n<=y)) (decide (n=0)),()):=by
 cases a <;> rfl
theorem y4:(∀ b,(true&&b)=b)/\(∀ b,(false&&b)=false)/\(∀ b,(b&&true)=b)/\(∀ b,(b&&false)=false)/\(∀ b,(true||b)=true)/\(∀ b,(false||b)=b)/\(∀ b,(b||true)=true)/\(∀ b,(b||false)=b)/\(!true)=false/\(!false)=true:=by simp
theorem zn:decide ((1:Int)<1)=false/\decide (9<(1:Int))=false/\decide ((1:Int)=3)=false/\decide ((1:Int)=4)=false/\decide ((1:Int)=5)=false/\decide ((1:Int)=6)=false/\decide ((1:Int)=7)=false/\decide ((1:Int)=8)=false/\decide ((1:Int)=9)=false/\decide ((2:Int)<1)=false/\decide (9<(2:Int))=false/\decide ((2:Int)=3)=false/\decide ((2:Int)=4)=false/\decide ((2:Int)=5)=false/\decide ((2:Int)=6)=false/\decide ((2:Int)=7)=false/\decide ((2:Int)=8)=false/\decide ((2:Int)=9)=false/\decide ((3:Int)<1)=false/\decide (9<(3:Int))=false/\decide ((3:Int)=4)=false/\decide ((3:Int)=5)=false/\decide ((3:Int)=6)=false/\decide ((3:Int)=7)=false/\decide ((3:Int)=8)=false/\decide ((3:Int)=9)=false/\decide ((4:Int)<1)=false/\decide (9<(4:Int))=false/\decide ((4:Int)=3)=false/\decide ((4:Int)=5)=false/\decide ((4:Int)=6)=false/\decide ((4:Int)=7)=false/\decide ((4:Int)=8)=false/\decide ((4:Int)=9)=false/\decide ((5:Int)<1)=false/\decide (9<(5:Int))=false/\decide ((5:Int)=3)=false/\decide ((5:Int)=4)=false/\decide ((5:Int)=6)=false/\decide ((5:Int)=7)=false/\decide ((5:Int)=8)=false/\decide ((5:Int)=9)=false/\decide ((6:Int)<1)=false/\decide (9<(6:Int))=false/\decide ((6:Int)=3)=false/\decide ((6:Int)=4)=false/\decide ((6:Int)=5)=false/\decide ((6:Int)=7)=false/\decide ((6:Int)=8)=false/\decide ((6:Int)=9)=false/\decide ((7:Int)<1)=false/\decide (9<(7:Int))=false/\decide ((7:Int)=3)=false/\decide ((7:Int)=4)=false/\decide ((7:Int)=5)=false/\decide ((7:Int)=6)=false/\decide ((7:Int)=8)=false/\decide ((7:Int)=9)=false/\decide ((8:Int)<1)=false/\decide (9<(8:Int))=false/\decide ((8:Int)=3)=false/\decide ((8:Int)=4)=false/\decide ((8:Int)=5)=false/\decide ((8:Int)=6)=false/\decide ((8:Int)=7)=false/\decide ((8:Int)=9)=false/\decide ((9:Int)<1)=false/\decide (9<(9:Int))=false/\decide ((9:Int)=3)=false/\decide ((9:Int)=4)=false/\decide ((9:Int)=5)=false/\decide ((9:Int)=6)=false/\decide ((9:Int)=7)=false/\decide ((9:Int)=8)=false/\(decide ((2:Int)<=1)&&decide ((1:Int)<=7))=false/\(decide ((2:Int)<=8)&&decide ((8:Int)<=7))=false/\(decide ((2:Int)<=9)&&decide ((9:Int)<=7))=false/\(decide ((2:Int)<=2)&&decide ((2:Int)<=7))=true/\(decide ((2:Int)<=3)&&decide ((3:Int)<=7))=true/\(decide ((2:Int)<=4)&&decide ((4:Int)<=7))=true/\(decide ((2:Int)<=5)&&decide ((5:Int)<=7))=true/\(decide ((2:Int)<=6)&&decide ((6:Int)<=7))=true/\(decide ((2:Int)<=7)&&decide ((7:Int)<=7))=true:=by simp
theorem zo:(∀ s:Tx,F70 ((s,()),())=some (zq s,()))/\(∀ a n x y,F94 ((a,n,x,y,()),())=some (cond a (decide (x<=n)&&decide (n<=y)) (decide (n=0)),()))/\(∀ l,F75 ((l,()),())=some (((took l).1,(took l).2,()),())) /\
  (∀ l,F62 ((l,()),())=some ((((took l).1.1,(took l).1.2.1,(),()),(took l).2,()),((took l).1.2.2.1,())))/\(∀ s:Tx,decide ((0:Int)<((s.length:Nat):Int))=!(decide (s=([]:List UInt8)))) :=
 ⟨F70_eq,F94_eq,F75_took,F62_took,not_nil⟩
theorem sZ (l:List Int) (b:Bool) (d:Dd) (e:decide (d.1∈l)=b) (hl:l.length<=32):F92 ((l,(),()),(d,()))=some (b,(d,())):=by rw [F92_eq _ _ hl,e]
theorem chk_1 (du db dt:Tx) (uid how:Int) (fl:UInt8) (ds de:Int) (by':Tx) (hu:du.length<=maxLen) (hb:db.length<=1100000) (ht:dt.length<=1100000) :
  F60 (((1,du,db,dt,uid,how,fl,ds,de,by',()),()),())=F73 (((1,du,db,dt,uid,how,fl,ds,de,by',()),()),()):=by
 have H l b e h:=sZ l b (1,du,db,dt,uid,how,fl,ds,de,by',()) e h;have h0:=H [2,3,4,5,6,7] false (by simp) (by decide);have h1:=H [7] false (by simp) (by decide);have h2:=H [5,6] false (by simp) (by decide);have h3:=H [5] false (by simp) (by decide);have h4:=H [4,5] false (by simp) (by decide);have h5:=H [9] false (by simp) (by decide);have h6:=H [8,9] false (by simp) (by decide);have h7:=H [4] false (by simp) (by decide);have h8:=H [4,8] false (by simp) (by decide);have h9:=H [8] false (by simp) (by decide);have g1:=tG du hu;have g2:=uX du hu;have g3:=y8 db hb;have g4:=y8 dt ht;simp only [*,zo,zn,y4,zG,zE,cond,F73,F60]
 all_goals (cases q0:yq du <;> try simp only [*,y4,zE])
 all_goals (cases q1:decide (db=[]) <;> try simp only [*,y4,zE,zd])
 all_goals (cases q2:decide (dt=[]) <;> try simp only [*,y4,zE])
 all_goals (cases q3:decide (uid=0) <;> try simp only [*,y4,zE])
 all_goals (cases q4:decide (how=0) <;> try simp only [*,y4,zE])
 all_goals (cases q5:decide (fl=0) <;> try simp only [*,y4,zE])
 all_goals (cases q6:decide (ds=0) <;> try simp only [*,y4,zE])
 all_goals (cases q7:decide (de=0) <;> try simp only [*,y4,zE])
 all_goals (cases q8:decide (by'=[]) <;> try simp only [*,y4,zE])
theorem chk_2 (du db dt:Tx) (uid how:Int) (fl:UInt8) (ds de:Int) (by':Tx) (hu:du.length<=maxLen) (hb:db.length<=1100000) (ht:dt.length<=1100000) :
  F60 (((2,du,db,dt,uid,how,fl,ds,de,by',()),()),())=F73 (((2,du,db,dt,uid,how,fl,ds,de,by',()),()),()):=by
 have H l b e h:=sZ l b (2,du,db,dt,uid,how,fl,ds,de,by',()) e h;have h0:=H [2,3,4,5,6,7] true (by simp) (by decide);have h1:=H [7] false (by simp) (by decide);have h2:=H [5,6] false (by simp) (by decide);have h3:=H [5] false (by simp) (by decide);have h4:=H [4,5] false (by simp) (by decide);have h5:=H [9] false (by simp) (by decide);have h6:=H [8,9] false (by simp) (by decide);have h7:=H [4] false (by simp) (by decide);have h8:=H [4,8] false (by simp) (by decide);have h9:=H [8] false (by simp) (by decide);have g1:=tG du hu;have g2:=uX du hu;have g3:=y8 db hb;have g4:=y8 dt ht;simp only [*,zo,zn,y4,zG,zE,cond,F73,F60]
 all_goals (cases q0:yq du <;> try simp only [*,y4,zE])
 all_goals (cases q1:zq db <;> try simp only [*,y4,zE,zd])
 all_goals (cases q2:decide (dt=[]) <;> try simp only [*,y4,zE])
 all_goals (cases q3:decide (uid=0) <;> try simp only [*,y4,zE])
 all_goals (cases q4:decide (how=0) <;> try simp only [*,y4,zE])
 all_goals (cases q5:decide (fl=0) <;> try simp only [*,y4,zE])
 all_goals (cases q6:decide (ds=0) <;> try simp only [*,y4,zE])
 all_goals (cases q7:decide (de=0) <;> try simp only [*,y4,zE])
 all_goals (cases q8:decide (by'=[]) <;> try simp only [*,y4,zE])
theorem chk_3 (du db dt:Tx) (uid how:Int) (fl:UInt8) (ds de:Int) (by':Tx) (hu:du.length<=maxLen) (hb:db.length<=1100000) (ht:dt.length<=1100000) :
  F60 (((3,du,db,dt,uid,how,fl,ds,de,by',()),()),())=F73 (((3,du,db,dt,uid,how,fl,ds,de,by',()),()),()):=by
 have H l b e h:=sZ l b (3,du,db,dt,uid,how,fl,ds,de,by',()) e h;have h0:=H [2,3,4,5,6,7] true (by simp) (by decide);have h1:=H [7] false (by simp) (by decide);have h2:=H [5,6] false (by simp) (by decide);have h3:=H [5] false (by simp) (by decide);have h4:=H [4,5] false (by simp) (by decide);have h5:=H [9] false (by simp) (by decide);have h6:=H [8,9] false (by simp) (by decide);have h7:=H [4] false (by simp) (by decide);have h8:=H [4,8] false (by simp) (by decide);have h9:=H [8] false (by simp) (by decide);have g1:=tG du hu;have g2:=uX du hu;have g3:=y8 db hb;have g4:=y8 dt ht;simp only [*,zo,zn,y4,zG,zE,cond,F73,F60]
 all_goals (cases q0:yq du <;> try simp only [*,y4,zE])
 all_goals (cases q1:zq db <;> try simp only [*,y4,zE,zd])
 all_goals (cases q2:decide (dt=[]) <;> try simp only [*,y4,zE])
 all_goals (cases q3:decide (uid=0) <;> try simp only [*,y4,zE])
 all_goals (cases q4:decide (how=0) <;> try simp only [*,y4,zE])
 all_goals (cases q5:decide (fl=0) <;> try simp only [*,y4,zE])
 all_goals (cases q6:decide (ds=0) <;> try simp only [*,y4,zE])
 all_goals (cases q7:decide (de=0) <;> try simp only [*,y4,zE])
 all_goals (cases q8:decide (by'=[]) <;> try simp only [*,y4,zE])
theorem chk_4 (du db dt:Tx) (uid how:Int) (fl:UInt8) (ds de:Int) (by':Tx) (hu:du.length<=maxLen) (hb:db.length<=1100000) (ht:dt.length<=1100000) :
  F60 (((4,du,db,dt,uid,how,fl,ds,de,by',()),()),())=F73 (((4,du,db,dt,uid,how,fl,ds,de,by',()),()),()):=by
 have H l b e h:=sZ l b (4,du,db,dt,uid,how,fl,ds,de,by',()) e h;have h0:=H [2,3,4,5,6,7] true (by simp) (by decide);have h1:=H [7] false (by simp) (by decide);have h2:=H [5,6] false (by simp) (by decide);have h3:=H [5] false (by simp) (by decide);have h4:=H [4,5] true (by simp) (by decide);have h5:=H [9] false (by simp) (by decide);have h6:=H [8,9] false (by simp) (by decide);have h7:=H [4] true (by simp) (by decide);have h8:=H [4,8] true (by simp) (by decide);have h9:=H [8] false (by simp) (by decide);have g1:=tG du hu;have g2:=uX du hu;have g3:=y8 db hb;have g4:=y8 dt ht;simp only [*,zo,zn,y4,zG,zM,zE,zd,cond,F73,F60]
 all_goals (cases q0:yq du <;> try simp only [*,y4,zE])
 all_goals (cases q1:zq db <;> try simp only [*,y4,zE,zd])
 all_goals (cases q2:decide (dt=[]) <;> try simp only [*,y4,zE])
 all_goals (cases q3:decide (uid=0) <;> try simp only [*,y4,zE])
 all_goals (cases q4:decide (how=0) <;> try simp only [*,y4,zE])
 all_goals (cases q5:(decide ((0:Int)<=((fl.toNat:Nat):Int))&&decide (((fl.toNat:Nat):Int)<=31)) <;> try simp only [*,y4,zE])
 all_goals (cases q6:decide (ds=0) <;> try simp only [*,y4,zE])
 all_goals (cases q7:decide (de=0) <;> try simp only [*,y4,zE])
 all_goals (cases q8:decide ((600:Int)<((by'.length:Nat):Int)) <;> try simp only [*,zE])
theorem chk_5 (du db dt:Tx) (uid how:Int) (fl:UInt8) (ds de:Int) (by':Tx) (hu:du.length<=maxLen) (hb:db.length<=1100000) (ht:dt.length<=1100000) :
  F60 (((5,du,db,dt,uid,how,fl,ds,de,by',()),()),())=F73 (((5,du,db,dt,uid,how,fl,ds,de,by',()),()),()):=by
 have H l b e h:=sZ l b (5,du,db,dt,uid,how,fl,ds,de,by',()) e h;have h0:=H [2,3,4,5,6,7] true (by simp) (by decide);have h1:=H [7] false (by simp) (by decide);have h2:=H [5,6] true (by simp) (by decide);have h3:=H [5] true (by simp) (by decide);have h4:=H [4,5] true (by simp) (by decide);have h5:=H [9] false (by simp) (by decide);have h6:=H [8,9] false (by simp) (by decide);have h7:=H [4] false (by simp) (by decide);have h8:=H [4,8] false (by simp) (by decide);have h9:=H [8] false (by simp) (by decide);have g1:=tG du hu;have g2:=uX du hu;have g3:=y8 db hb;have g4:=y8 dt ht;simp only [*,zo,zn,y4,zG,zM,zF,zE,zd,cond,F73,F60]
 all_goals (cases q0:yq du <;> try simp only [*,y4,zE])
 all_goals (cases q1:zq db <;> try simp only [*,y4,zE,zd])
 all_goals (cases q2:decide (dt=[]) <;> try simp only [*,y4,zE])
 all_goals (cases q3:(decide (1<=uid)&&decide (uid<=4294967295)) <;> try simp only [*,y4,zE])
 all_goals (cases q4:(decide (0<=how)&&decide (how<=2)) <;> try simp only [*,y4,zE])
 all_goals (cases q5:(decide ((0:Int)<=((fl.toNat:Nat):Int))&&decide (((fl.toNat:Nat):Int)<=31)) <;> try simp only [*,y4,zE])
 all_goals (cases q6:decide (ds=0) <;> try simp only [*,y4,zE])
 all_goals (cases q7:decide (de=0) <;> try simp only [*,y4,zE])
 all_goals (cases q8:decide (by'=[]) <;> try simp only [*,y4,zE])
theorem chk_6 (du db dt:Tx) (uid how:Int) (fl:UInt8) (ds de:Int) (by':Tx) (hu:du.length<=maxLen) (hb:db.length<=1100000) (ht:dt.length<=1100000) :
  F60 (((6,du,db,dt,uid,how,fl,ds,de,by',()),()),())=F73 (((6,du,db,dt,uid,how,fl,ds,de,by',()),()),()):=by
 have H l b e h:=sZ l b (6,du,db,dt,uid,how,fl,ds,de,by',()) e h;have h0:=H [2,3,4,5,6,7] true (by simp) (by decide);have h1:=H [7] false (by simp) (by decide);have h2:=H [5,6] true (by simp) (by decide);have h3:=H [5] false (by simp) (by decide);have h4:=H [4,5] false (by simp) (by decide);have h5:=H [9] false (by simp) (by decide);have h6:=H [8,9] false (by simp) (by decide);have h7:=H [4] false (by simp) (by decide);have h8:=H [4,8] false (by simp) (by decide);have h9:=H [8] false (by simp) (by decide);have g1:=tG du hu;have g2:=uX du hu;have g3:=y8 db hb;have g4:=y8 dt ht;simp only [*,zo,zn,y4,zG,zE,zd,cond,F73,F60]
 all_goals (cases q0:yq du <;> try simp only [*,y4,zE])
 all_goals (cases q1:zq db <;> try simp only [*,y4,zE,zd])
 all_goals (cases q2:decide (dt=[]) <;> try simp only [*,y4,zE])
 all_goals (cases q3:(decide (1<=uid)&&decide (uid<=4294967295)) <;> try simp only [*,y4,zE])
 all_goals (cases q4:decide (how=0) <;> try simp only [*,y4,zE])
 all_goals (cases q5:decide (fl=0) <;> try simp only [*,y4,zE])
 all_goals (cases q6:decide (ds=0) <;> try simp only [*,y4,zE])
 all_goals (cases q7:decide (de=0) <;> try simp only [*,y4,zE])
 all_goals (cases q8:decide (by'=[]) <;> try simp only [*,y4,zE])
theorem chk_7 (du db dt:Tx) (uid how:Int) (fl:UInt8) (ds de:Int) (by':Tx) (hu:du.length<=maxLen) (hb:db.length<=1100000) (ht:dt.length<=1100000) :
  F60 (((7,du,db,dt,uid,how,fl,ds,de,by',()),()),())=F73 (((7,du,db,dt,uid,how,fl,ds,de,by',()),()),()):=by
 have H l b e h:=sZ l b (7,du,db,dt,uid,how,fl,ds,de,by',()) e h;have h0:=H [2,3,4,5,6,7] true (by simp) (by decide);have h1:=H [7] true (by simp) (by decide);have h2:=H [5,6] false (by simp) (by decide);have h3:=H [5] false (by simp) (by decide);have h4:=H [4,5] false (by simp) (by decide);have h5:=H [9] false (by simp) (by decide);have h6:=H [8,9] false (by simp) (by decide);have h7:=H [4] false (by simp) (by decide);have h8:=H [4,8] false (by simp) (by decide);have h9:=H [8] false (by simp) (by decide);have g1:=tG du hu;have g2:=uX du hu;have g3:=y8 db hb;have g4:=y8 dt ht;simp only [*,zo,zn,y4,zG,zE,zd,cond,F73,F60]
 all_goals (cases q0:yq du <;> try simp only [*,y4,zE])
 all_goals (cases q1:zq db <;> try simp only [*,y4,zE])
 all_goals (cases q2:zq dt <;> try simp only [*,y4,zE,zd])
 all_goals (cases q3:decide (uid=0) <;> try simp only [*,y4,zE])
 all_goals (cases q4:decide (how=0) <;> try simp only [*,y4,zE])
 all_goals (cases q5:decide (fl=0) <;> try simp only [*,y4,zE])
 all_goals (cases q6:decide (ds=0) <;> try simp only [*,y4,zE])
 all_goals (cases q7:decide (de=0) <;> try simp only [*,y4,zE])
 all_goals (cases q8:decide (by'=[]) <;> try simp only [*,y4,zE])
theorem chk_8 (du db dt:Tx) (uid how:Int) (fl:UInt8) (ds de:Int) (by':Tx) (hu:du.length<=maxLen) (hb:db.length<=1100000) (ht:dt.length<=1100000) :
  F60 (((8,du,db,dt,uid,how,fl,ds,de,by',()),()),())=F73 (((8,du,db,dt,uid,how,fl,ds,de,by',()),()),()):=by
 have H l b e h:=sZ l b (8,du,db,dt,uid,how,fl,ds,de,by',()) e h;have h0:=H [2,3,4,5,6,7] false (by simp) (by decide);have h1:=H [7] false (by simp) (by decide);have h2:=H [5,6] false (by simp) (by decide);have h3:=H [5] false (by simp) (by decide);have h4:=H [4,5] false (by simp) (by decide);have h5:=H [9] false (by simp) (by decide);have h6:=H [8,9] true (by simp) (by decide);have h7:=H [4] false (by simp) (by decide);have h8:=H [4,8] true (by simp) (by decide);have h9:=H [8] true (by simp) (by decide);have g1:=tG du hu;have g2:=uX du hu;have g3:=y8 db hb;have g4:=y8 dt ht;simp only [*,zo,zn,y4,zG,zE,zd,cond,F73,F60]
 all_goals (cases q0:yq du <;> try simp only [*,y4,zE])
 all_goals (cases q1:decide (db=[]) <;> try simp only [*,y4,zE,zd])
 all_goals (cases q2:decide (dt=[]) <;> try simp only [*,y4,zE])
 all_goals (cases q3:decide (uid=0) <;> try simp only [*,y4,zE])
 all_goals (cases q4:decide (how=0) <;> try simp only [*,y4,zE])
 all_goals (cases q5:decide (fl=0) <;> try simp only [*,y4,zE])
 all_goals (cases q6:decide (ds=0) <;> try simp only [*,y4,zE])
 all_goals (cases q7:(decide (1<=de)&&decide (de<=4294967295)) <;> try simp only [*,zo,y4,zE])
 generalize took by'=tk;obtain ⟨⟨t1,t2,t3,⟨⟩⟩,te⟩:=tk;simp only;by_cases he:te=0
 ·subst he;by_cases hn:t1=du
  ·simp [hn]
  ·simp [hn]
 ·simp [he]
theorem chk_9 (du db dt:Tx) (uid how:Int) (fl:UInt8) (ds de:Int) (by':Tx) (hu:du.length<=maxLen) (hb:db.length<=1100000) (ht:dt.length<=1100000) :
  F60 (((9,du,db,dt,uid,how,fl,ds,de,by',()),()),())=F73 (((9,du,db,dt,uid,how,fl,ds,de,by',()),()),()):=by
 have H l b e h:=sZ l b (9,du,db,dt,uid,how,fl,ds,de,by',()) e h;have h0:=H [2,3,4,5,6,7] false (by simp) (by decide);have h1:=H [7] false (by simp) (by decide);have h2:=H [5,6] false (by simp) (by decide);have h3:=H [5] false (by simp) (by decide);have h4:=H [4,5] false (by simp) (by decide);have h5:=H [9] true (by simp) (by decide);have h6:=H [8,9] true (by simp) (by decide);have h7:=H [4] false (by simp) (by decide);have h8:=H [4,8] false (by simp) (by decide);have h9:=H [8] false (by simp) (by decide);have g1:=tG du hu;have g2:=uX du hu;have g3:=y8 db hb;have g4:=y8 dt ht;simp only [*,zo,zn,y4,zG,zL,zE,zd,cond,F73,F60]
 all_goals (cases q0:yq du <;> try simp only [*,y4,zE])
 all_goals (cases q1:decide (db=[]) <;> try simp only [*,y4,zE,zd])
 all_goals (cases q2:decide (dt=[]) <;> try simp only [*,y4,zE])
 all_goals (cases q3:decide (uid=0) <;> try simp only [*,y4,zE])
 all_goals (cases q4:decide (how=0) <;> try simp only [*,y4,zE])
 all_goals (cases q5:decide (fl=0) <;> try simp only [*,y4,zE])
 all_goals (cases q6:(decide (0<=ds)&&decide (ds<=3)) <;> try simp only [*,y4,zE])
 all_goals (cases q7:(decide (1<=de)&&decide (de<=4294967295)) <;> try simp only [*,y4,zE])
 all_goals (cases q8:decide (by'=[]) <;> try simp only [*,y4,zE])
theorem F60_F73 (d:Dd) (hu:d.2.1.length<=maxLen) (hb:d.2.2.1.length<=1100000) (ht:d.2.2.2.1.length<=1100000):F60 ((d,()),())=F73 ((d,()),()):=by
 obtain ⟨dd,du,db,dt,uid,how,fl,ds,de,by',⟨⟩⟩:=d;by_cases h:1<=dd/\dd<=9
 ·have:dd=1\/dd=2\/dd=3\/dd=4\/dd=5\/dd=6\/dd=7\/dd=8\/dd=9:=by omega
  rcases this with rfl | rfl | rfl | rfl | rfl | rfl | rfl | rfl | rfl
  ·exact chk_1 du db dt uid how fl ds de by' hu hb ht
  ·exact chk_2 du db dt uid how fl ds de by' hu hb ht
  ·exact chk_3 du db dt uid how fl ds de by' hu hb ht
  ·exact chk_4 du db dt uid how fl ds de by' hu hb ht
  ·exact chk_5 du db dt uid how fl ds de by' hu hb ht
  ·exact chk_6 du db dt uid how fl ds de by' hu hb ht
  ·exact chk_7 du db dt uid how fl ds de by' hu hb ht
  ·exact chk_8 du db dt uid how fl ds de by' hu hb ht
  ·exact chk_9 du db dt uid how fl ds de by' hu hb ht
 ·have c:(decide (dd<1)||decide (9<dd))=true:=by
   rw [Bool.or_eq_true,xX,xX];omega
  have h0:=F92_eq [(2:Int),3,4,5,6,7] (dd,du,db,dt,uid,how,fl,ds,de,by',()) (by decide);simp only [F73,F60,c,zI,h0,zE]
abbrev Ur:Type:=Tx×(Int×(List Bx×Unit))
abbrev nou:Ur:=([],0,[],())
theorem wn {ly:List Ur} {i:Nat} (h:i<ly.length):ly.getD i nou=ly[i]:=by
 rw [wQ,List.getElem?_eq_getElem h];rfl
theorem vd {ls:List Bx} {i:Nat} (h:i<ls.length):ls.getD i yE=ls[i]:=by
 rw [wQ,List.getElem?_eq_getElem h];rfl
theorem F41_eq (ly:List Ur) (nm:Tx) (hl:ly.length<=1000) :
  ∃ lo:Nat,F41 ((true,nm,()),((ly,()),()))=some (((lo:Int),decide (lo<ly.length)&&decide ((ly.getD lo nou).1=nm),()),((ly,()),()))/\lo<=ly.length /\
   (∀ k,k<lo->(ly.getD k nou).1<nm)/\(lo<ly.length->¬ (ly.getD lo nou).1<nm):=by
 have hF:=zR
 obtain ⟨r,h1,lo,rfl,h2,h3,h4⟩:=z6 (f:=B41_0) (p:=((true,nm,(0:Int),()),((ly,()),())))
  (λp=>∃ i:Nat,i<=ly.length/\(∀ k,k<i->(ly.getD k nou).1<nm)/\p=((true,nm,(i:Int),()),((ly,()),()))) (λp=>ly.length-p.1.2.2.1.toNat)
  (λr=>∃ lo:Nat,r=((true,nm,(lo:Int),()),((ly,()),()))/\lo<=ly.length/\(∀ k,k<lo->(ly.getD k nou).1<nm)/\(lo<ly.length->¬ (ly.getD lo nou).1<nm))
  (λp ⟨i,hi,hk,hp⟩=>by
   subst hp;rcases Nat.lt_or_ge i ly.length with h | h
   ·have d0:decide ((i:Int)<((ly.length:Nat):Int))=true:=zm (by omega);have d1:decide ((0:Int)<=(i:Int))=true:=zm (by omega);have w1:zh ((i:Int)+1)=((i+1:Nat):Int):=by rw [zV (by omega) (by omega)];rfl
    by_cases hb:(ly.getD i nou).1<nm
    ·left;refine ⟨((true,nm,((i+1:Nat):Int),()),((ly,()),())),?_,⟨i+1,h,λk hk'=>?_,rfl⟩,by simp only;omega⟩
     ·have hb':Op.bytesLess (ly.getD i (([]:Tx),((0:Int),(([]:(List Bx)),())))).1 nm=true:=by rw [bl_eq];exact zm hb
      simp only [B41_0,d0,d1,yW,Bool.true_or,zI,yF,hb',w1]
     ·rcases Nat.lt_or_ge k i with h' | h'
      ·exact hk k h'
      ·obtain rfl:k=i:=by omega
       exact hb
    ·right;refine ⟨((true,nm,(i:Int),()),((ly,()),())),?_,i,rfl,hi,hk,λ_=>hb⟩;have hb':Op.bytesLess (ly.getD i (([]:Tx),((0:Int),(([]:(List Bx)),())))).1 nm=false:=by rw [bl_eq];exact yv hb
     simp only [B41_0,d0,d1,yW,Bool.true_or,zI,yF,hb',Bool.and_false,zK]
   ·right;have d0:decide ((i:Int)<((ly.length:Nat):Int))=false:=yv (by omega);refine ⟨((true,nm,(i:Int),()),((ly,()),())),?_,i,rfl,hi,hk,λh'=>absurd h' (by omega)⟩
    simp only [B41_0,d0,xf,Bool.or_true,zI,Bool.false_and,zK])
  ⟨0,Nat.zero_le _,λk hk=>absurd hk (Nat.not_lt_zero _),rfl⟩ (by simp only;omega)
 refine ⟨lo,?_,h2,h3,h4⟩;have hL:L41_0 ((true,nm,(0:Int),()),((ly,()),()))=some ((true,nm,(lo:Int),()),((ly,()),())):=h1;have d1:decide ((0:Int)<=(lo:Int))=true:=zm (by omega);have e:decide ((lo:Int)<((ly.length:Nat):Int))=decide (lo<ly.length):=by rw [decide_eq_decide];omega
 have o:∀ b:Bool,(b||!b)=true:=λb=>by cases b <;> rfl
 simp only [F41,hL,zE,zI,Bool.true_or,d1,Bool.true_and,e,o,yF]
theorem F63_eq (ly L:List Ur) (i k:Nat) (hl:ly.length<=1000) (hL:L.length<=1000) (hi:i<=ly.length) (hk:k<=ly.length) :
  F63 ((true,(i:Int),(k:Int),L,()),((ly,()),()))=some ((),(((),()),ly.take i++L++ly.drop k,())):=by
 have d1:decide ((0:Int)<=(i:Int))=true:=zm (by omega);have d2:decide ((i:Int)<=((ly.length:Nat):Int))=true:=zm (by omega);have d3:decide ((0:Int)<=(k:Int))=true:=zm (by omega);have d4:decide ((k:Int)<=((ly.length:Nat):Int))=true:=zm (by omega);have b1:zH (([]:List Ur).length+(ly.take i).length) 48=true:=zl (by rw [xG,List.length_nil];omega);have b2:zH ((ly.take i).length+L.length) 48=true:=zl (by rw [xG];omega);have b3:zH ((ly.take i++L).length+((ly.drop k).take (ly.length-k)).length) 48=true:=zl (by rw [xe,xG,xG,sG];omega);have e:(ly.drop k).take (ly.length-k)=ly.drop k:=List.take_of_length_le (by rw [sG];omega);rw [e] at b3;simp only [F63,zI,d1,d2,d3,d4,Int.le_refl,zd,yW,yF,b1,b2,b3,e,zE,List.nil_append]
def but (ls:List Bx) (nm:Tx):List Bx:=ls.filter λb=>!decide (b.1=nm)
def tA (nm:Tx) (o:wN) (b:Bx):wN:=if b.1=nm then z8 b else o
theorem F40_eq (u:ww) (nm:Tx) (hl:u.2.2.1.length<=1000):F40 ((u,nm,()),())=some (((),u.2.2.1.foldl (tA nm) yO,yX u.2.2.1 nm,()),(but u.2.2.1 nm,())):=by
  obtain ⟨un,uv,ls,⟨⟩⟩:=u;change ls.length<=1000 at hl;have hF:=zR
  have hL:L40_0 ((nm,(),(),(),(),false,(0:Int),()),((un,uv,ls,()),((),(),(),(),()),([]:List Bx),yO,([]:List yJ),()))=some (((),(),(),yX ls nm,()),(((),(),(),(),()),but ls nm,ls.foldl (tA nm) yO,([]:List yJ),())):=by
    unfold L40_0
    refine (yC (f:=B40_0) (λ(c:Bool×(List Bx×wN)) i=>((nm,(),(),(),(),c.1,(i:Int),()),((un,uv,ls,()),((),(),(),(),()),c.2.1,(c.2.2.1,c.2.2.2.1,c.2.2.2.2.1,c.2.2.2.2.2.1,()),([]:List yJ),()))) ls
      (λa c=>.inl (c.1||decide (a.1=nm),(if a.1=nm then c.2.1 else c.2.1++[a]),tA nm c.2.2 a)) (λc=>(((),(),(),c.1,()),(((),(),(),(),()),c.2.1,(c.2.2.1,c.2.2.2.1,c.2.2.2.2.1,c.2.2.2.2.2.1,()),([]:List yJ),()))) (λc i=>c.2.1.length<=i)
      (λc i a hI hi ha=>?_) (λc _=>?_) (by omega) (b:=(false,([],yO))) (Nat.le_refl _)).trans ?_
    . refine .inl ⟨_,rfl,?_,?_⟩
      . simp only;split
        . omega
        . rw [xe,lSg];omega
      . have d0:decide ((i:Int)<((ls.length:Nat):Int))=true:=zm (by omega);have d1:decide ((0:Int)<=(i:Int))=true:=zm (by omega);have w1:zh ((i:Int)+1)=((i+1:Nat):Int):=by rw [zV (by omega) (by omega)];rfl
        have b1:∀ x:Bx,zH (c.2.1.length+[x].length) 56=true:=λx=>zl (by simp only [lSg];omega)
        have ha':=ha yE;by_cases h:a.1=nm
        . simp only [B40_0,d0,d1,yW,zI,yF,ha',h,zd,zE,w1,Bool.or_true,tA,↓reduceIte,z8]
        . simp only [B40_0,d0,d1,yW,zI,yF,ha',yv h,zK,b1,zE,w1,Bool.or_false,tA,if_neg h]
    . simp only [B40_0,Int.lt_irrefl,xA,zK]
    . have:∀ (l:List Bx) (c:Bool×(List Bx×wN)),zk (λ(a:Bx) (c:Bool×(List Bx×wN))=>(.inl (c.1||decide (a.1=nm),(if a.1=nm then c.2.1 else c.2.1++[a]),tA nm c.2.2 a):(Bool×(List Bx×wN))⊕_)) (λc=>(((),(),(),c.1,()),(((),(),(),(),()),c.2.1,(c.2.2.1,c.2.2.2.1,c.2.2.2.2.1,c.2.2.2.2.2.1,()),([]:List yJ),()))) c l =
          (((),(),(),c.1||yX l nm,()),(((),(),(),(),()),c.2.1++but l nm,l.foldl (tA nm) c.2.2,([]:List yJ),())):=λl=>by
        induction l with
        | nil=>intro c;simp [zk,yX,but]
        | cons a t ih =>
          intro c;simp only [zk];rw [ih];by_cases h:a.1=nm
          . simp [yX,but,h,tA]
          . simp [yX,but,h,tA]
      rw [this];simp only [Bool.false_or,List.nil_append]
  have he:(([]:Tx),(0:Int),(0:Int),([]:List yJ),())=yO:=rfl;simp only [F40,zE,he,hL]
def lay1 (b:Bx):List Bx->List Bx
 | []=>[b]
 | x::t=>if b.1<x.1 then b::x::t else x::lay1 b t
def ug (b:Bx) (c:Bool×List Bx) (a:Bx):Bool×List Bx:=if c.1=false/\b.1<a.1 then (true,c.2++[b]++[a]) else (c.1,c.2++[a])
theorem layG_true (b:Bx):∀ (l o:List Bx),l.foldl (ug b) (true,o)=(true,o++l)
 | [],o=>by simp
 | a::t,o=>by
  simp only [List.foldl_cons];rw [show ug b (true,o) a=(true,o++[a]) by simp [ug],layG_true b t];simp
theorem layG_false (b:Bx):∀ (l o:List Bx),cond (l.foldl (ug b) (false,o)).1 (l.foldl (ug b) (false,o)).2 ((l.foldl (ug b) (false,o)).2++[b])=o++lay1 b l
 | [],o=>by simp [lay1]
 | a::t,o=>by
  simp only [List.foldl_cons,lay1];by_cases h:b.1<a.1
  ·rw [show ug b (false,o) a=(true,o++[b]++[a]) by simp [ug,h],layG_true b t];simp [h]
  ·rw [show ug b (false,o) a=(false,o++[a]) by simp [ug,h],layG_false b t];simp [h]
theorem F64_eq (ls:List Bx) (b:Bx) (hl:ls.length<=1000):F64 ((ls,z8 b,()),())=some ((),(lay1 b ls,())):=by
 obtain ⟨bn,bv,bx,bl,⟨⟩⟩:=b;have hF:=zR
 have hL:L64_0 ((ls,(),(),false,(0:Int),()),((bn,bv,bx,bl,()),([]:List Bx),()))=some (((),(),(ls.foldl (ug (bn,bv,bx,bl,())) (false,[])).1,()),((bn,bv,bx,bl,()),(ls.foldl (ug (bn,bv,bx,bl,())) (false,[])).2,())):=by
  unfold L64_0
  refine (yC (f:=B64_0) (λ(c:Bool×List Bx) i=>((ls,(),(),c.1,(i:Int),()),((bn,bv,bx,bl,()),c.2,()))) ls (λa c=>.inl (ug (bn,bv,bx,bl,()) c a)) (λc=>(((),(),c.1,()),((bn,bv,bx,bl,()),c.2,()))) (λc i=>c.2.length<=i+(if c.1=true then 1 else 0))
   (λc i a hI hi ha=>?_) (λc _=>?_) (by omega) (b:=(false,[])) (by simp)).trans ?_
  ·have d0:decide ((i:Int)<((ls.length:Nat):Int))=true:=zm (by omega);have d1:decide ((0:Int)<=(i:Int))=true:=zm (by omega);have w1:zh ((i:Int)+1)=((i+1:Nat):Int):=by rw [zV (by omega) (by omega)];rfl
   have ha':=ha yE;obtain ⟨done,o⟩:=c;simp only at hI
   have ho:o.length<=i+1:=by
    split at hI <;> omega
   have b1:∀ x:Bx,zH (o.length+[x].length) 56=true:=λx=>zl (by simp only [lSg];omega)
   have b2:∀ x y:Bx,zH ((o++[x]).length+[y].length) 56=true:=λx y=>zl (by simp only [xe,lSg];omega)
   refine .inl ⟨_,rfl,?_,?_⟩
   ·unfold ug;simp only;by_cases h:done=false/\bn<a.1
    ·rw [if_pos h];rw [h.1] at hI;simp only [xe,lSg,↓reduceIte];simp at hI;omega
    ·rw [if_neg h];simp only [xe,lSg];omega
   ·cases done with
    | true =>
     simp only [B64_0,d0,d1,yW,zI,yM,xf,Bool.or_true,Bool.false_and,zK,zE,yF,ha',b1,w1,ug,Bool.true_eq_false,false_and,↓reduceIte]
    | false =>
     by_cases h:bn<a.1
     ·have hb:Op.bytesLess bn a.1=true:=by rw [bl_eq];exact zm h
      simp only [B64_0,d0,d1,yW,zI,yM,xf,Bool.true_or,hb,zE,yF,ha',b1,b2,w1,ug,h,and_self,↓reduceIte]
     ·have hb:Op.bytesLess bn a.1=false:=by rw [bl_eq];exact yv h
      simp only [B64_0,d0,d1,yW,zI,yM,xf,Bool.true_or,Bool.and_false,hb,zK,zE,yF,ha',b1,w1,ug,h,and_false,↓reduceIte]
  ·simp only [B64_0,Int.lt_irrefl,xA,zK]
  ·rw [foldS_inl (ug (bn,bv,bx,bl,()))]
 have hl2:∀ (l:List Bx) (c:Bool×List Bx),(l.foldl (ug (bn,bv,bx,bl,())) c).2.length<=c.2.length+2*l.length:=λl=>by
  induction l with
  | nil=>intro c;simp
  | cons a t ih =>
   intro c;simp only [List.foldl_cons,List.length_cons];refine Nat.le_trans (ih _) ?_;unfold ug;split
   ·simp only [xe,lSg];omega
   ·simp only [xe,lSg];omega
 have hlen:=hl2 ls (false,[]);have key:=layG_false (bn,bv,bx,bl,()) ls [];simp only [F64,z8,zE,hL];rw [List.nil_append] at key
 cases hd:(ls.foldl (ug (bn,bv,bx,bl,())) (false,[])).1 with
 | true =>
  rw [hd,zI] at key;simp only [yM,zK,zE,key]
 | false =>
  rw [hd,zK] at key;have b1:∀ x:Bx,zH ((ls.foldl (ug (bn,bv,bx,bl,())) (false,[])).2.length+[x].length) 56=true:=λx=>zl (by simp only [lSg];simp at hlen;omega)
  simp only [xf,zI,b1,zE,key]
def cntM (frm:Tx) (ls:List Bx):Nat:=ls.countP λb=>uQ b.1 frm
noncomputable def allR (frm tt:Tx) (ls:List Bx):Bool:=ls.all λb=>zq (vC b.1 frm tt)
theorem cntM_succ {frm:Tx} {ls:List Bx} {i:Nat} (h:i<ls.length):cntM frm (ls.take (i+1))=cntM frm (ls.take i)+(if uQ ls[i].1 frm=true then 1 else 0):=by
 unfold cntM;rw [List.take_succ_eq_append_getElem h,List.countP_append];simp [List.countP_cons]
theorem L77_0_eq (un:Tx) (uv:Int) (d:Dd) (ls xs:List Bx) (hl:ls.length<=6) (hn:∀ b∈ls,zq b.1=true) (h2:d.2.2.1.length<=1100000) (h3:d.2.2.2.1.length<=1100000) :
  ∃ r:R77,L77_0 (((),(),(),(0:Int),(),((ls.length:Nat):Int),(0:Int),()),((un,uv,(),()),d,((),(),(),()),ls,xs,()))=some r /\
   match r with
   | .inl q=>q=(((),(),((cntM d.2.2.1 ls:Nat):Int),()),((un,uv,(),()),((),(),(),()),ls.map (ren d.2.2.1 d.2.2.2.1),xs,()))/\allR d.2.2.1 d.2.2.2.1 ls=true
   | .inr q=>(∃ cur,q=(((),(),(),()),((un,uv,(),()),cur,())))/\allR d.2.2.1 d.2.2.2.1 ls=false:=by
 obtain ⟨dd,du,db,dt,uid,how,fl,ds,de,by',⟨⟩⟩:=d;simp only at h2 h3 ⊢;have hF:=zR;unfold L77_0
 refine z6 (f:=u4) (λp=>∃ (i:Nat),i<=ls.length/\(∀ k,k<i->zq (vC (ls.getD k yE).1 db dt)=true) /\
   p=(((),(),(),((cntM db (ls.take i):Nat):Int),(),((ls.length:Nat):Int),(i:Int),()),((un,uv,(),()),(dd,du,db,dt,uid,how,fl,ds,de,by',()),((),(),(),()),(ls.take i).map (ren db dt)++ls.drop i,xs,())))
  (λp=>ls.length-p.1.2.2.2.2.2.2.1.toNat) _ ?_ ⟨0,Nat.zero_le _,λk hk=>absurd hk (Nat.not_lt_zero _),by simp [cntM]⟩ (by simp only;omega)
 rintro p ⟨i,hi,hk,rfl⟩;rcases Nat.lt_or_ge i ls.length with h | h
 ·have d0:decide ((i:Int)<((ls.length:Nat):Int))=true:=zm (by omega);have d1:decide ((0:Int)<=(i:Int))=true:=zm (by omega);have w1:zh ((i:Int)+1)=((i+1:Nat):Int):=by rw [zV (by omega) (by omega)];rfl
  have hc:=cntM_succ (frm:=db) h;have hcl:cntM db (ls.take i)<=6:=Nat.le_trans List.countP_le_length (by rw [xG];omega);have w2:zh (((cntM db (ls.take i):Nat):Int)+1)=((cntM db (ls.take i)+1:Nat):Int):=by rw [zV (by omega) (by omega)];rfl
  have hlen:((ls.take i).map (ren db dt)++ls.drop i).length=ls.length:=by simp;omega
  have hti:((ls.take i).map (ren db dt)).length=i:=by simp;omega
  obtain ⟨⟨bn,bv,bx,bl,⟨⟩⟩,hb⟩:∃ b,ls[i]=b:=⟨_,rfl⟩;rw [hb] at hc
  have hcur:(ls.take i).map (ren db dt)++ls.drop i=(ls.take i).map (ren db dt)++((bn,(bv,(bx,(bl,()))))::ls.drop (i+1)):=by
   rw [List.drop_eq_getElem_cons h,hb]
  have hg:((ls.take i).map (ren db dt)++ls.drop i).getD i (([]:List UInt8),((0:Int),((0:Int),(([]:(List yJ)),()))))=(bn,(bv,(bx,(bl,())))):=by
   rw [hcur,wQ,List.getElem?_append_right (by omega),hti,Nat.sub_self];rfl
  have hset:∀ x:Bx,((ls.take i).map (ren db dt)++ls.drop i).set i x=(ls.take i).map (ren db dt)++(x::ls.drop (i+1)):=λx=>by
   rw [hcur]
   have:=sU ((ls.take i).map (ren db dt)) (ls.drop (i+1)) (bn,(bv,(bx,(bl,())))) x
   rw [hti] at this;exact this
  have hnext:(ls.take i).map (ren db dt)++((vC bn db dt,(bv,(bx,(bl,()))))::ls.drop (i+1))=(ls.take (i+1)).map (ren db dt)++ls.drop (i+1):=by
   rw [List.take_succ_eq_append_getElem h,List.map_append,List.map_cons,hb];simp [ren]
  have hbn:bn.length<=24:=by
   have:=um (hn ls[i] (List.getElem_mem h))
   rw [hb] at this;exact this
  have e102:=F102_eq bn db dt (by omega) h2 h3;have e70:=F70_eq (vC bn db dt);generalize hC:(ls.take i).map (ren db dt)++ls.drop i=C at hlen hg hset
  cases hr:zq (vC bn db dt) with
  | false =>
   rw [hr] at e70;right;refine ⟨.inr (((),(),(),()),((un,uv,(),()),C,())),?_,⟨_,rfl⟩,?_⟩
   ·cases hm:uQ bn db with
    | false =>
     rw [hm] at e102;simp only [u4,d0,d1,hlen,yW,zI,zK,yF,zE,hg,e102,e70,xf]
    | true =>
     rw [hm] at e102;simp only [u4,d0,d1,hlen,yW,zI,yF,zE,hg,e102,e70,xf]
   ·unfold allR;rw [List.all_eq_false];exact ⟨ls[i],List.getElem_mem h,by rw [hb];simp [hr]⟩
  | true =>
   rw [hr] at e70;left
   have hgood:∀ k,k<i+1->zq (vC (ls.getD k yE).1 db dt)=true:=λk hk'=>by
    rcases Nat.lt_or_ge k i with h' | h'
    ·exact hk k h'
    ·obtain rfl:k=i:=by omega
     rw [wQ,List.getElem?_eq_getElem h,hb];exact hr
   cases hm:uQ bn db with
   | false =>
    rw [hm] at e102 hc;rw [if_neg (by simp)] at hc;refine ⟨_,by simp only [u4,d0,d1,hlen,yW,zI,zK,yF,zE,hg,e102,e70,yM,hset,hnext,w1];rfl,⟨i+1,h,hgood,by rw [hc];rfl⟩,?_⟩;simp only;omega
   | true =>
    rw [hm] at e102 hc;rw [if_pos rfl] at hc;refine ⟨_,by simp only [u4,d0,d1,hlen,yW,zI,zK,yF,zE,hg,e102,e70,yM,hset,hnext,w1,w2];rfl,⟨i+1,h,hgood,by rw [hc]⟩,?_⟩;simp only;omega
 ·have hi':i=ls.length:=by omega
  subst hi';right;refine ⟨.inl (((),(),((cntM db ls:Nat):Int),()),((un,uv,(),()),((),(),(),()),ls.map (ren db dt),xs,())),?_,rfl,?_⟩
  ·simp only [u4,Int.lt_irrefl,xA,zK,List.take_length,List.drop_length,List.append_nil]
  ·unfold allR;rw [List.all_eq_true];intro b hb;obtain ⟨k,hk',rfl⟩:=List.getElem_of_mem hb
   have:=hk k hk'
   rw [wQ,List.getElem?_eq_getElem hk'] at this;exact this
theorem L77_1_eq (un:Tx) (uv n:Int) (ls xs:List Bx) (h1:1<=ls.length) (hl:ls.length<=6) :
  ∃ r:R77,L77_1 (((),(),n,((ls.length-1:Nat):Int),(0:Int),()),((un,uv,(),()),((),(),(),()),ls,xs,()))=some r /\
   match r with
   | .inl q=>q=(((),(),n,()),((un,uv,(),()),((),(),(),()),ls,xs,()))/\∀ k,k+1<ls.length->(ls.getD k yE).1≠(ls.getD (k+1) yE).1
   | .inr q=>q=(((),(),(),()),((un,uv,(),()),ls,()))/\∃ k,k+1<ls.length/\(ls.getD k yE).1=(ls.getD (k+1) yE).1:=by
 have hF:=zR;unfold L77_1
 refine z6 (f:=B77_1) (λp=>∃ (i:Nat),i<=ls.length-1/\(∀ k,k<i->(ls.getD k yE).1≠(ls.getD (k+1) yE).1) /\
   p=(((),(),n,((ls.length-1:Nat):Int),(i:Int),()),((un,uv,(),()),((),(),(),()),ls,xs,())))
  (λp=>ls.length-p.1.2.2.2.2.1.toNat) _ ?_ ⟨0,Nat.zero_le _,λk hk=>absurd hk (Nat.not_lt_zero _),rfl⟩ (by simp only;omega)
 rintro p ⟨i,hi,hk,rfl⟩;rcases Nat.lt_or_ge i (ls.length-1) with h | h
 ·have d0:decide ((i:Int)<((ls.length-1:Nat):Int))=true:=zm (by omega);have d1:decide ((0:Int)<=(i:Int))=true:=zm (by omega);have d2:decide ((i:Int)<((ls.length:Nat):Int))=true:=zm (by omega);have w1:zh ((i:Int)+1)=((i+1:Nat):Int):=by rw [zV (by omega) (by omega)];rfl
  have d3:decide ((0:Int)<=((i+1:Nat):Int))=true:=zm (by omega);have d4:decide (((i+1:Nat):Int)<((ls.length:Nat):Int))=true:=zm (by omega);by_cases he:(ls.getD i yE).1=(ls.getD (i+1) yE).1
  ·right;refine ⟨.inr (((),(),(),()),((un,uv,(),()),ls,())),?_,rfl,i,by omega,he⟩;simp only [B77_1,d0,d1,d2,w1,d3,d4,yW,zI,yF,he,zd]
  ·left;refine ⟨_,by simp only [B77_1,d0,d1,d2,w1,d3,d4,yW,zI,yF,he,xA,zK],⟨i+1,h,λk hk'=>?_,rfl⟩,?_⟩
   ·rcases Nat.lt_or_ge k i with h' | h'
    ·exact hk k h'
    ·obtain rfl:k=i:=by omega
     exact he
   ·simp only;omega
 ·have hi':i=ls.length-1:=by omega
  subst hi';right;refine ⟨.inl (((),(),n,()),((un,uv,(),()),((),(),(),()),ls,xs,())),?_,rfl,λk hk'=>hk k (by omega)⟩;simp only [B77_1,Int.lt_irrefl,xA,zK]
theorem uB (b:Bx):∀ (l:List Bx),(lay1 b l).Perm (b::l)
 | []=>List.Perm.refl _
 | x::t=>by
  unfold lay1;split
  ·exact List.Perm.refl _
  ·exact ((uB b t).cons x).trans (List.Perm.swap b x t)
theorem lay1_len (b:Bx) (l:List Bx):(lay1 b l).length=l.length+1:=(uB b l).length_eq
theorem lay1_rise (b:Bx):∀ (l:List Bx),l.Pairwise (λa b=>a.1<b.1)->(∀ x∈l,x.1≠b.1)->(lay1 b l).Pairwise (λa b=>a.1<b.1)
 | [],_,_=>by simp [lay1]
 | x::t,h,hn=>by
  obtain ⟨h1,h2⟩:=List.pairwise_cons.1 h;unfold lay1;split
  ·rename_i hb;refine List.pairwise_cons.2 ⟨λy hy=>?_,h⟩;rcases List.mem_cons.1 hy with rfl | hy
   ·exact hb
   ·exact List.lt_trans hb (h1 y hy)
  ·rename_i hb;refine List.pairwise_cons.2 ⟨λy hy=>?_,lay1_rise b t h2 λz hz=>hn z (List.mem_cons_of_mem _ hz)⟩;rcases List.mem_cons.1 ((uB b t).mem_iff.1 hy) with rfl | hy
   ·exact wg hb λe=>hn x (List.mem_cons_self ..) e.symm
   ·exact h1 y hy
theorem rise_eq:∀ {a b:List Bx},a.Perm b->a.Pairwise (λa b=>a.1<b.1)->b.Pairwise (λa b=>a.1<b.1)->a=b
 | [],b,h,_,_=>h.nil_eq
 | x::t,[],h,_,_=>by have:=h.length_eq;simp at this
 | x::t,y::s,h,h1,h2=>by
  obtain ⟨k1,k2⟩:=List.pairwise_cons.1 h1;obtain ⟨k3,k4⟩:=List.pairwise_cons.1 h2
  have e:x=y:=by
   rcases List.mem_cons.1 (h.mem_iff.1 (List.mem_cons_self ..)) with e | hx
   ·exact e
   ·rcases List.mem_cons.1 (h.symm.mem_iff.1 (List.mem_cons_self ..)) with e | hy
    ·exact e.symm
    ·exact absurd (List.lt_trans (k3 x hx) (k1 y hy)) (List.lt_irrefl _)
  subst e;rw [rise_eq (List.Perm.cons_inv h) k2 k4]
def uM (f t:Tx) (c:Int×Bool×List Bx) (b:Bx):Int×Bool×List Bx :=
 ((if uQ b.1 f=true then c.1+1 else c.1),c.2.1||c.2.2.any (λx=>decide (x.1=vC b.1 f t)),lay1 (ren f t b) c.2.2)
theorem renG_fold (f t:Tx):∀ (ls:List Bx) (c:Int×Bool×List Bx),(ls.foldl (uM f t) c).1=c.1+((cntM f ls:Nat):Int)/\(ls.foldl (uM f t) c).2.2.Perm (c.2.2++ls.map (ren f t)) /\
      (c.2.2.Pairwise (λa b=>a.1<b.1)->(ls.foldl (uM f t) c).2.1=false->(ls.foldl (uM f t) c).2.2.Pairwise (λa b=>a.1<b.1)) /\
      ((ls.foldl (uM f t) c).2.1=true->c.2.1=true\/¬ ((c.2.2++ls.map (ren f t)).map (·.1)).Nodup)
  | [],c=>⟨by simp [cntM],by simp,λh _=>h,λh=>.inl h⟩
  | a::l,c=>by
    obtain ⟨h1,h2,h3,h4⟩:=renG_fold f t l (uM f t c a)
    have hmono:∀ (l:List Bx) (c:Int×Bool×List Bx),c.2.1=true->(l.foldl (uM f t) c).2.1=true:=λl=>by
      induction l with
      | nil=>exact λc h=>h
      | cons x t' ih=>exact λc h=>ih _ (by simp [uM,h])
    simp only [List.foldl_cons]
    have hp:((lay1 (ren f t a) c.2.2)++l.map (ren f t)).Perm (c.2.2++(a::l).map (ren f t)):=by
      refine ((uB (ren f t a) c.2.2).append_right _).trans ?_;rw [List.map_cons,List.cons_append];exact List.perm_middle.symm
    refine ⟨?_,h2.trans hp,λhc hk=>?_,λhk=>?_⟩
    . rw [h1];unfold uM cntM;rw [List.countP_cons];simp only;split <;> simp <;> omega
    . have hk1:(uM f t c a).2.1=false:=by
        cases hq:(uM f t c a).2.1 with
        | false=>rfl
        | true=>rw [hmono l _ hq] at hk;cases hk
      refine h3 (lay1_rise _ _ hc λx hx e=>?_) hk;simp only [uM,Bool.or_eq_false_iff,List.any_eq_false,xX] at hk1;exact hk1.2 x hx e
    . rcases h4 hk with h | h
      . simp only [uM,Bool.or_eq_true,List.any_eq_true,xX] at h;rcases h with h | ⟨x,hx,e⟩
        . exact .inl h
        . right;intro hnd;rw [List.map_append,List.map_cons,List.map_cons,List.nodup_append] at hnd;exact hnd.2.2 x.1 (List.mem_map_of_mem hx) _ (List.mem_cons_self ..) e
      . right;intro hnd;exact h ((hp.map (·.1)).nodup_iff.2 hnd)
theorem moves_eq (nm frm:Tx):uQ nm frm=(decide (nm=frm)||((decide (((frm.length:Nat):Int)<((nm.length:Nat):Int))&&decide (nm.take frm.length=frm))&&decide (nm.getD frm.length 0=47))):=by
 unfold uQ pfx;by_cases h:nm=frm
 ·simp [h]
 ·rw [yv h,Bool.false_or,Bool.false_or];rw [Bool.eq_iff_iff];simp only [yR,xX,xe,lSg];constructor
  ·rintro ⟨h1,h2⟩;have h3:frm.length<nm.length:=by omega
   rw [List.take_succ_eq_append_getElem h3] at h2;obtain ⟨h4,h5⟩:=List.append_inj' h2 rfl;simp only [List.cons.injEq,and_true] at h5;refine ⟨⟨by omega,h4⟩,?_⟩;rw [wQ,List.getElem?_eq_getElem h3];exact h5
  ·rintro ⟨⟨h1,h2⟩,h3⟩;have h4:frm.length<nm.length:=by omega
   refine ⟨by omega,?_⟩;rw [List.take_succ_eq_append_getElem h4,h2];rw [wQ,List.getElem?_eq_getElem h4] at h3;simp only [Option.getD_some] at h3;rw [h3]
theorem L65_1_eq (ly:List Ur) (at' n:Int) (i:Int) (known:Bool) (d:Dd) (u:ww) (out:List Bx) (b:Bx) (hl:out.length<=1000) :
  L65_1 ((true,at',(),(),(),n,known,i,(),(0:Int),()),((ly,()),d,u,out,z8 b,()))=some ((true,at',(),(),(),n,(known||out.any λx=>decide (x.1=b.1)),i,(),()),((ly,()),d,u,out,z8 b,())):=by
 obtain ⟨dd,du,db,dt,uid,how,fl,ds,de,by',⟨⟩⟩:=d;obtain ⟨un,uv,ls,⟨⟩⟩:=u;obtain ⟨bn,bv,bx,bl,⟨⟩⟩:=b;have hF:=zR;unfold L65_1 z8
 refine (yo (f:=B65_1) (λ(k:Bool) j=>((true,at',(),(),(),n,k,i,(),(j:Int),()),((ly,()),(dd,du,db,dt,uid,how,fl,ds,de,by',()),(un,uv,ls,()),out,(bn,bv,bx,bl,()),()))) out
  (λa k=>.inl (k||decide (a.1=bn))) (λk=>((true,at',(),(),(),n,k,i,(),()),((ly,()),(dd,du,db,dt,uid,how,fl,ds,de,by',()),(un,uv,ls,()),out,(bn,bv,bx,bl,()),())))
  (λk j a hj ha=>?_) (λk=>?_) (by omega) (b:=known)).trans ?_
 ·have d0:decide ((j:Int)<((out.length:Nat):Int))=true:=zm (by omega);have d1:decide ((0:Int)<=(j:Int))=true:=zm (by omega);have w1:zh ((j:Int)+1)=((j+1:Nat):Int):=by rw [zV (by omega) (by omega)];rfl
  simp only [B65_1,d0,d1,yW,Bool.true_or,zI,yF,ha yE,zE,w1]
 ·simp only [B65_1,Int.lt_irrefl,xA,zK]
 ·rw [foldS_any (λ(a:Bx)=>decide (a.1=bn))]
theorem foldS_guard {α β τ:Type} (q:α->Bool) (g:β->α->β) (r:τ) (fin:β->τ):∀ (l:List α) (b:β),zk (λa b=>if q a=true then (.inl (g b a):β⊕τ) else .inr r) fin b l=if l.all q=true then fin (l.foldl g b) else r
 | [],_=>rfl
 | a::t,b=>by
  have ih:=foldS_guard q g r fin t;simp only [zk,List.all_cons,List.foldl_cons];rcases Bool.eq_false_or_eq_true (q a) with hq | hq
  ·simp only [hq,↓reduceIte,ih,Bool.true_and]
  ·simp only [hq,Bool.false_eq_true,↓reduceIte,Bool.false_and]
abbrev R65:Type:=(((Bool×Int×Unit×Unit×Int×Bool×Unit)×(((List Ur)×Unit)×(Tx×Int×(List Bx)×Unit)×(List Bx)×Unit))⊕((Bool×Unit×Unit×Unit)×(((List Ur)×Unit)×Unit)))
theorem L65_0_eq (ly:List Ur) (at':Int) (d:Dd) (un:Tx) (uv:Int) (ls:List Bx) (hl:ls.length<=6) (hn:∀ b∈ls,zq b.1=true) (h2:d.2.2.1.length<=24) (h3:d.2.2.2.1.length<=1050000) :
  L65_0 ((true,at',(),(),(),(0:Int),false,(0:Int),()),((ly,()),d,(un,uv,ls,()),([]:List Bx),())) =
   some (if allR d.2.2.1 d.2.2.2.1 ls=true then (.inl ((true,at',(),(),(ls.foldl (uM d.2.2.1 d.2.2.2.1) (0,false,[])).1,(ls.foldl (uM d.2.2.1 d.2.2.2.1) (0,false,[])).2.1,()),((ly,()),(un,uv,ls,()),(ls.foldl (uM d.2.2.1 d.2.2.2.1) (0,false,[])).2.2,())):R65) else .inr ((true,(),(),()),((ly,()),()))):=by
 obtain ⟨dd,du,db,dt,uid,how,fl,ds,de,by',⟨⟩⟩:=d;simp only at h2 h3 ⊢;have hF:=zR;unfold L65_0
 refine (yC (f:=B65_0) (λ(c:Int×Bool×List Bx) i=>((true,at',(),(),(),c.1,c.2.1,(i:Int),()),((ly,()),(dd,du,db,dt,uid,how,fl,ds,de,by',()),(un,uv,ls,()),c.2.2,()))) ls
  (λa c=>if zq (vC a.1 db dt)=true then .inl (uM db dt c a) else .inr (.inr ((true,(),(),()),((ly,()),())))) (λc=>(.inl ((true,at',(),(),c.1,c.2.1,()),((ly,()),(un,uv,ls,()),c.2.2,())):R65))
  (λc i=>0<=c.1/\c.1<=i/\c.2.2.length<=i) (λc i a hI hi ha=>?_) (λc _=>?_) (by omega) (b:=(0,false,[])) ⟨Int.le_refl _,Int.le_refl _,Nat.le_refl _⟩).trans ?_
 ·obtain ⟨n,kn,out⟩:=c;obtain ⟨i1,i2,i3⟩:=hI;simp only at i1 i2 i3;have d0:decide ((i:Int)<((ls.length:Nat):Int))=true:=zm (by omega);have d1:decide ((0:Int)<=(i:Int))=true:=zm (by omega);have w1:zh ((i:Int)+1)=((i+1:Nat):Int):=by rw [zV (by omega) (by omega)];rfl
  have w2:zh (n+1)=n+1:=zV (by omega) (by omega);obtain ⟨bn,bv,bx,bl,⟨⟩⟩:=a;have ha':ls.getD i (([]:List UInt8),((0:Int),((0:Int),(([]:(List yJ)),()))))=(bn,bv,bx,bl,()):=ha yE
  have hm:(bn,bv,bx,bl,())∈ls:=by
   have:=ha yE
   rw [wQ,List.getElem?_eq_getElem hi] at this;rw [<- this];exact List.getElem_mem hi
  have hbn:bn.length<=24:=um (hn _ hm)
  have hud:(vC bn db dt).length<=1050024:=by
   unfold vC;split
   ·rw [xe,sG];omega
   ·omega
  have e33:=y8 (vC bn db dt) (by omega);have e64:=λnm:Tx=>F64_eq out (nm,(bv,(bx,(bl,())))) (by omega)
  have e651:=λ(m:Int) (nm:Tx)=>L65_1_eq ly at' m (i:Int) kn (dd,du,db,dt,uid,how,fl,ds,de,by',()) (un,uv,ls,()) out (nm,(bv,(bx,(bl,())))) (by omega)
  simp only [z8] at e64 e651
  have q1:((decide ((0:Int)<=((db.length:Nat):Int))&&decide (((db.length:Nat):Int)<=((bn.length:Nat):Int)))||(!(decide (((db.length:Nat):Int)<((bn.length:Nat):Int))&&(!(decide (bn=db))))))=true:=by
   rw [zm (show (0:Int)<=((db.length:Nat):Int) by omega)];by_cases h:((db.length:Nat):Int)<((bn.length:Nat):Int)
   ·rw [zm (show ((db.length:Nat):Int)<=((bn.length:Nat):Int) by omega)];rfl
   ·rw [yv h];simp
  have q2:((decide ((0:Int)<=((db.length:Nat):Int))&&decide (((db.length:Nat):Int)<((bn.length:Nat):Int)))||(!((decide (((db.length:Nat):Int)<((bn.length:Nat):Int))&&decide (bn.take db.length=db))&&(!(decide (bn=db))))))=true:=by
   rw [zm (show (0:Int)<=((db.length:Nat):Int) by omega)]
   cases decide (((db.length:Nat):Int)<((bn.length:Nat):Int)) <;> simp
  have hmv:=moves_eq bn db
  cases hmo:uQ bn db with
  | false =>
   rw [hmo] at hmv;have hu:vC bn db dt=bn:=by unfold vC;rw [hmo];rfl
   rw [hu] at e33
   cases hr:zq bn with
   | false =>
    right;rw [hr] at e33;refine ⟨_,by rw [hu,hr,if_neg (by simp)],?_⟩;simp only [B65_0,d0,d1,yW,zI,yF,ha',zE,q1,q2,<- hmv,zK,e33,xf]
   | true =>
    left;rw [hr] at e33;refine ⟨_,by rw [hu,hr,if_pos rfl],?_,?_⟩
    ·simp only [uM,hmo,Bool.false_eq_true,↓reduceIte,lay1_len];omega
    ·simp only [B65_0,d0,d1,yW,zI,yF,ha',zE,q1,q2,<- hmv,zK,e33,yM,e651,e64,w1,uM,hmo,hu,ren,Bool.false_eq_true,↓reduceIte]
  | true =>
   rw [hmo] at hmv
   have hle:db.length<=bn.length:=by
    unfold uQ at hmo;rw [Bool.or_eq_true,xX] at hmo;rcases hmo with h | h
    ·rw [h];exact Nat.le_refl _
    ·have:=pfx_le h
     rw [xe] at this;omega
   have hu:vC bn db dt=dt++bn.drop db.length:=by unfold vC;rw [hmo];rfl
   have q3:((decide ((0:Int)<=((db.length:Nat):Int))&&decide (((db.length:Nat):Int)<=((bn.length:Nat):Int)))&&decide (((bn.length:Nat):Int)<=((bn.length:Nat):Int)))=true:=by
    rw [zm (show (0:Int)<=((db.length:Nat):Int) by omega),zm (show ((db.length:Nat):Int)<=((bn.length:Nat):Int) by omega),zm (Int.le_refl _)];rfl
   have tk:(bn.drop db.length).take (bn.length-db.length)=bn.drop db.length:=List.take_of_length_le (by rw [sG];omega);have ft:fits (dt.length+(bn.drop db.length).length)=true:=zm (by rw [sG];omega);rw [hu] at e33
   cases hr:zq (dt++bn.drop db.length) with
   | false =>
    right;rw [hr] at e33;refine ⟨_,by rw [hu,hr,if_neg (by simp)],?_⟩;simp only [B65_0,d0,d1,yW,zI,yF,ha',zE,q1,q2,<- hmv,q3,tk,ft,e33,xf]
   | true =>
    left;rw [hr] at e33;refine ⟨_,by rw [hu,hr,if_pos rfl],?_,?_⟩
    ·simp only [uM,hmo,↓reduceIte,lay1_len];omega
    ·simp only [B65_0,d0,d1,yW,zI,yF,ha',zE,q1,q2,<- hmv,q3,tk,ft,zK,e33,yM,e651,e64,w1,w2,uM,hmo,hu,ren,↓reduceIte]
 ·simp only [B65_0,Int.lt_irrefl,xA,zK]
 ·rw [foldS_guard (λa=>zq (vC a.1 db dt)) (uM db dt)];rfl
theorem ren_both {u:ww} (G:Fine u) (d:Dd) (h3:d.2.2.2.1.length<=1050000) (hh:yX u.2.2.1 d.2.2.1=true) (ly:List Ur) (k:Nat) (hk:k<ly.length) (hly:ly.length<=1000) (he:ly.getD k nou=(u.1,(u.2.1,(u.2.2.1,())))) :
  ∃ R:ww×Int×Int×Unit,F77 ((u,d,()),())=some (R,())/\(R.2.2.1=0->Fine R.1/\R.1.1=u.1) /\
   F65 ((true,(k:Int),d,()),((ly,()),()))=some ((if R.2.2.1=0 then (R.2.1,0,()) else (0,R.2.2.1,())),(((if R.2.2.1=0 then ly.take k++[(R.1.1,(R.1.2.1,(R.1.2.2.1,())))]++ly.drop (k+1) else ly),()),())):=by
 obtain ⟨un,uv,ls,⟨⟩⟩:=u;obtain ⟨lo,e39,_,_,_,h5,_⟩:=F39_eq (un,uv,ls,()) d.2.2.1 (Nat.le_trans G.good.few (by omega)) G.good.rise;obtain ⟨R0,hR0,hR1⟩:=F77_ex G d (by omega);refine ⟨R0,hR0,hR1,?_⟩;obtain ⟨dd,du,db,dt,uid,how,fl,ds,de,by',⟨⟩⟩:=d;have g1:=G.good.few;have g5:=G.names;simp only at h3 e39 h5 g1 g5 hh he;rw [hh] at e39;obtain ⟨k1,k2⟩:=h5 hh
 have hdb:db.length<=24:=by
  have:=um (g5 _ (wo k1))
  rw [k2] at this;exact this
 have d0:decide ((k:Int)<((ly.length:Nat):Int))=true:=zm (by omega);have d1:decide ((0:Int)<=(k:Int))=true:=zm (by omega);have hg:ly.getD k (([]:Tx),((0:Int),(([]:(List Bx)),())))=(un,(uv,(ls,()))):=he;by_cases hin:db=inbx
 ·have hd:decide (db=([73,78,66,79,88]:List UInt8))=true:=zm hin
  have:R0=((un,uv,ls,()),0,13,()):=by
   have:F77 (((un,uv,ls,()),(dd,du,db,dt,uid,how,fl,ds,de,by',()),()),())=some (((un,uv,ls,()),0,13,()),()):=by
    simp only [F77,e39,zE,yM,zK,hd,zI]
   rw [this] at hR0
   cases hR0;rfl
  subst this;simp only [F65,zI,d0,d1,yW,yF,hg,zE,hd];rfl
 ·have hdi:decide (db=([73,78,66,79,88]:List UInt8))=false:=yv hin;have e30:=F30_eq ls (by omega);have e65:=L65_0_eq ly (k:Int) (dd,du,db,dt,uid,how,fl,ds,de,by',()) un uv ls g1 g5 hdb h3;simp only at e65;obtain ⟨r,e0,hr⟩:=L77_0_eq un uv (dd,du,db,dt,uid,how,fl,ds,de,by',()) ls [] g1 g5 (by simp only;omega) (by simp only;omega)
  cases r with
  | inr q =>
   obtain ⟨⟨cur,rfl⟩,hal⟩:=hr;simp only at hal
   have:R0=((un,uv,cur,()),0,6,()):=by
    have:F77 (((un,uv,ls,()),(dd,du,db,dt,uid,how,fl,ds,de,by',()),()),())=some (((un,uv,cur,()),0,6,()),()):=by
     simp only [F77,e39,zE,yM,zK,hdi,e30,e0]
    rw [this] at hR0
    cases hR0;rfl
   subst this;rw [hal,if_neg (by simp)] at e65;simp only [F65,zI,d0,d1,yW,yF,hg,zE,hdi,zK,e65];rfl
  | inl q =>
   obtain ⟨rfl,hal⟩:=hr;simp only at hal;rw [hal,if_pos rfl] at e65;have hp:(srtB (ls.map (ren db dt))).Perm (ls.map (ren db dt)):=srtBy_perm _ _ _;have hs:(srtB (ls.map (ren db dt))).Pairwise λa b=>¬ b.1<a.1:=srtBy_sorted _ _ _
   have hlen:(srtB (ls.map (ren db dt))).length=ls.length:=by rw [hp.length_eq,List.length_map]
   have hok:srtBOK (ls.map (ren db dt))=true:=by
    unfold srtBOK;simp only [List.length_map,yR,xX,Bool.not_eq_true',List.isEmpty_eq_false_iff];refine ⟨by omega,λh=>?_⟩
    have:=congrArg List.length h
    rw [List.length_map,List.length_nil] at this;omega
   obtain ⟨S,hS⟩:∃ S,srtB (ls.map (ren db dt))=S:=⟨_,rfl⟩;rw [hS] at hp hs hlen;obtain ⟨f1,f2,f3,f4⟩:=renG_fold db dt ls (0,false,[]);obtain ⟨⟨n',kn,out⟩,hfo⟩:∃ c,ls.foldl (uM db dt) (0,false,[])=c:=⟨_,rfl⟩;rw [hfo] at e65 f1 f2 f3 f4;simp only [List.nil_append,Int.zero_add] at f1 f2 f3 f4;subst f1;obtain ⟨r,e1,hr⟩:=L77_1_eq un uv ((cntM db ls:Nat):Int) S [] (by omega) (by omega);have c1:decide ((1:Int)<=((S.length:Nat):Int))=true:=zm (by omega)
   cases r with
   | inr q =>
    obtain ⟨rfl,j,hj,hje⟩:=hr
    have hkn:kn=true:=by
     cases kn with
     | true=>rfl
     | false =>
      have hrise:=f3 List.Pairwise.nil rfl
      have hnd:(out.map (·.1)).Nodup:=by
       rw [List.Nodup,List.pairwise_map];exact hrise.imp λh e=>absurd (e ▸ h) (List.lt_irrefl _)
      have hps:=((f2.trans hp.symm).map (·.1)).nodup_iff.1 hnd;rw [List.Nodup,List.pairwise_map] at hps;rw [vd (by omega),vd hj] at hje;exact absurd hje (List.pairwise_iff_getElem.1 hps j (j+1) (by omega) hj (by omega))
    subst hkn
    have:R0=((un,uv,S,()),0,10,()):=by
     have:F77 (((un,uv,ls,()),(dd,du,db,dt,uid,how,fl,ds,de,by',()),()),())=some (((un,uv,S,()),0,10,()),()):=by
      simp only [F77,e39,zE,yM,zK,hdi,e30,e0,hok,zI,hS,c1,Int.le_refl,zd,yW,yF,e1]
     rw [this] at hR0
     cases hR0;rfl
    subst this;simp only [F65,zI,d0,d1,yW,yF,hg,zE,hdi,zK,e65];rfl
   | inl q =>
    obtain ⟨rfl,hd⟩:=hr
    have hrise:S.Pairwise λa b=>a.1<b.1:=rise_of λk hk=>by
     have h1:=List.pairwise_iff_getElem.1 hs k (k+1) (by omega) hk (by omega);have h2:=hd k hk;rw [vd (by omega),vd hk] at h2 ⊢;exact wg h1 λe=>h2 e.symm
    have hnd:((ls.map (ren db dt)).map (·.1)).Nodup:=by
     refine (hp.map (·.1)).nodup_iff.1 ?_;rw [List.Nodup,List.pairwise_map];exact hrise.imp λh e=>absurd (e ▸ h) (List.lt_irrefl _)
    have hkn:kn=false:=by
     cases kn with
     | false=>rfl
     | true =>
      rcases f4 rfl with h | h
      ·cases h
      ·exact absurd hnd h
    subst hkn;have hout:out=S:=rise_eq (f2.trans hp.symm) (f3 List.Pairwise.nil rfl) hrise;subst hout
    have:R0=((un,uv,out,()),((cntM db ls:Nat):Int),0,()):=by
     have:F77 (((un,uv,ls,()),(dd,du,db,dt,uid,how,fl,ds,de,by',()),()),())=some (((un,uv,out,()),((cntM db ls:Nat):Int),0,()),()):=by
      simp only [F77,e39,zE,yM,zK,hdi,e30,e0,hok,zI,hS,c1,Int.le_refl,zd,yW,yF,e1]
     rw [this] at hR0
     cases hR0;rfl
    subst this;have w1:zh ((k:Int)+1)=((k+1:Nat):Int):=by rw [zV (by omega) (by omega)];rfl
    have e63:=F63_eq ly [(un,(uv,(out,())))] k (k+1) hly (by simp) (by omega) (by omega);simp only [F65,zI,d0,d1,yW,yF,hg,zE,hdi,zK,e65,w1,e63];rfl
structure RelS (m:Mp) (ly:List Ur):Prop where
 fine:FineM m
 rise:ly.Pairwise (λa b=>a.1<b.1)
 len:m.length=ly.length
 same:∀ k:Tx,zO .str m k=ly.find? (λu=>decide (u.1=k))
theorem RelS.nil:RelS [] []:=⟨FineM.nil,List.Pairwise.nil,rfl,λ_=>rfl⟩
theorem RelS.few {m:Mp} {ly:List Ur} (R:RelS m ly):ly.length<=16:=R.len ▸ R.fine.few
theorem fnd_lt {A:List Ur} {nm:Tx} (h:∀ u∈A,u.1<nm):A.find? (λu=>decide (u.1=nm))=none:=by
 rw [List.find?_eq_none];intro u hu he
 have:=h u hu
 rw [of_decide_eq_true he] at this;exact List.lt_irrefl _ this
theorem fnd_gt {A:List Ur} {nm:Tx} (h:∀ u∈A,nm<u.1):A.find? (λu=>decide (u.1=nm))=none:=by
 rw [List.find?_eq_none];intro u hu he
 have:=h u hu
 rw [of_decide_eq_true he] at this;exact List.lt_irrefl _ this
theorem uj {ly:List Ur} (hr:ly.Pairwise (λa b=>a.1<b.1)) {nm:Tx} {lo:Nat} (hl:lo<=ly.length) (h3:∀ k,k<lo->(ly.getD k nou).1<nm) (h4:lo<ly.length->¬ (ly.getD lo nou).1<nm) :
  (∀ u∈ly.take lo,u.1<nm) /\
  (((decide (lo<ly.length)&&decide ((ly.getD lo nou).1=nm))=true/\lo<ly.length/\(ly.getD lo nou).1=nm/\∀ u∈ly.drop (lo+1),nm<u.1) \/
   ((decide (lo<ly.length)&&decide ((ly.getD lo nou).1=nm))=false/\∀ u∈ly.drop lo,nm<u.1)):=by
 refine ⟨λu hu=>?_,?_⟩
 ·obtain ⟨i,hi,rfl⟩:=List.mem_take_iff_getElem.1 hu
  have:=h3 i (by omega)
  rwa [wn (by omega)] at this
 ·by_cases h:lo<ly.length
  ·have hd:ly.drop lo=ly[lo]::ly.drop (lo+1):=List.drop_eq_getElem_cons h;have hp:(ly.drop lo).Pairwise (λa b=>a.1<b.1):=hr.sublist (List.drop_sublist _ _);rw [hd] at hp;obtain ⟨p1,p2⟩:=List.pairwise_cons.1 hp;have hge:=h4 h;by_cases he:(ly.getD lo nou).1=nm
   ·left;refine ⟨by rw [zm h,zm he];rfl,h,he,λu hu=>?_⟩;rw [wn h] at he;rw [<- he];exact p1 u hu
   ·right;refine ⟨by rw [yv he,Bool.and_false],λu hu=>?_⟩;have hlt:=wg hge he;rw [wn h] at hlt;rw [hd] at hu;rcases List.mem_cons.1 hu with rfl | hu
    ·exact hlt
    ·exact List.lt_trans hlt (p1 u hu)
  ·right;refine ⟨by simp [h],λu hu=>?_⟩;rw [List.drop_eq_nil_of_le (by omega)] at hu
   cases hu
structure Place (ly:List Ur) (nm:Tx) (lo:Nat) (there:Bool):Prop where
 f41:F41 ((true,nm,()),((ly,()),()))=some (((lo:Int),there,()),((ly,()),()))
 le:lo<=ly.length
 low:∀ u∈ly.take lo,u.1<nm
 yes:there=true->lo<ly.length/\(ly.getD lo nou).1=nm/\∀ u∈ly.drop (lo+1),nm<u.1
 no:there=false->∀ u∈ly.drop lo,nm<u.1
theorem RelS.place {m:Mp} {ly:List Ur} (R:RelS m ly) (nm:Tx):∃ lo there,Place ly nm lo there:=by
 have hf:=R.few;obtain ⟨lo,h1,h2,h3,h4⟩:=F41_eq ly nm (by omega);obtain ⟨k1,k2⟩:=uj R.rise h2 h3 h4;rcases k2 with ⟨k2,k3⟩ | ⟨k2,k3⟩
 ·rw [k2] at h1;exact ⟨lo,true,h1,h2,k1,λ_=>k3,nofun⟩
 ·rw [k2] at h1;exact ⟨lo,false,h1,h2,k1,nofun,λ_=>k3⟩
theorem Place.get {m:Mp} {ly:List Ur} (R:RelS m ly) {nm:Tx} {lo:Nat} {there:Bool} (P:Place ly nm lo there):zO .str m nm=if there=true then some (ly.getD lo nou) else none:=by
 rw [R.same];have e:ly.find? (λu=>decide (u.1=nm))=(ly.take lo++ly.drop lo).find? (λu=>decide (u.1=nm)):=by rw [List.take_append_drop]
 rw [e,List.find?_append,fnd_lt P.low,Option.none_or]
 cases there with
 | true =>
  obtain ⟨h1,h2,h3⟩:=P.yes rfl;rw [List.drop_eq_getElem_cons h1,List.find?_cons];rw [wn h1] at h2 ⊢;rw [zm h2];rfl
 | false =>
  rw [fnd_gt (P.no rfl)];rfl
theorem mid_rise {A B:List Ur} {u:Ur} (hA:A.Pairwise (λa b=>a.1<b.1)) (hB:B.Pairwise (λa b=>a.1<b.1)) (h1:∀ x∈A,x.1<u.1) (h2:∀ x∈B,u.1<x.1):(A++[u]++B).Pairwise (λa b=>a.1<b.1):=by
 rw [List.pairwise_append];refine ⟨?_,hB,λa ha b hb=>?_⟩
 ·rw [List.pairwise_append];refine ⟨hA,List.pairwise_singleton _ _,λa ha b hb=>?_⟩;rw [List.mem_singleton.1 hb];exact h1 a ha
 ·rcases List.mem_append.1 ha with ha | ha
  ·exact List.lt_trans (h1 a ha) (h2 b hb)
  ·rw [List.mem_singleton.1 ha];exact h2 b hb
theorem fnd_mid {A B:List Ur} {u:Ur} (h1:∀ x∈A,x.1<u.1) (k:Tx):(A++[u]++B).find? (λx=>decide (x.1=k))=if k=u.1 then some u else (A++B).find? (λx=>decide (x.1=k)):=by
 rw [List.find?_append,List.find?_append,List.find?_append];by_cases h:k=u.1
 ·subst h;rw [if_pos rfl,fnd_lt h1,Option.none_or,List.find?_cons,zm rfl];rfl
 ·rw [if_neg h,List.find?_cons,yv (λe=>h e.symm),List.find?_nil,Option.or_none]
theorem RelS.put {m:Mp} {ly A B:List Ur} {u:ww} (R:RelS m ly) (F2:FineM (yA .str m u.1 (u.1,(u.2.1,(u.2.2.1,()))))) (hlen:(yA .str m u.1 (u.1,(u.2.1,(u.2.2.1,())))).length=(A++B).length+1)
  (hA:A.Pairwise (λa b=>a.1<b.1)) (hB:B.Pairwise (λa b=>a.1<b.1)) (h1:∀ x∈A,x.1<u.1) (h2:∀ x∈B,u.1<x.1)
  (hs:∀ k,k≠u.1->ly.find? (λx=>decide (x.1=k))=(A++B).find? (λx=>decide (x.1=k))) :
  RelS (yA .str m u.1 (u.1,(u.2.1,(u.2.2.1,())))) (A++[(u.1,(u.2.1,(u.2.2.1,())))]++B) where
 fine:=F2
 rise:=mid_rise hA hB h1 h2
 len:=by
  rw [hlen];simp only [xe,lSg];omega
 same:=λk=>by
  rw [mapGet_set xH R.fine.nodup,fnd_mid (u:=(u.1,(u.2.1,(u.2.2.1,())))) h1]
  cases hq:yw .str k u.1 with
  | true =>
   have:k=u.1:=(xH k u.1).1 hq;rw [if_pos this,zI]
  | false =>
   have:k≠u.1:=λe=>by rw [(xH k u.1).2 e] at hq;cases hq
   rw [if_neg this,zK,R.same,hs k this]
theorem RelS.sub {m:Mp} {ly:List Ur} (R:RelS m ly) (lo:Nat):(ly.take lo).Pairwise (λa b=>a.1<b.1)/\(ly.drop lo).Pairwise (λa b=>a.1<b.1) :=
 ⟨R.rise.sublist (List.take_sublist _ _),R.rise.sublist (List.drop_sublist _ _)⟩
theorem RelS.ins {m:Mp} {ly:List Ur} {u:ww} (R:RelS m ly) {lo:Nat} (P:Place ly u.1 lo false) (hu:Fine u) (hf:m.length<16) :
  RelS (yA .str m u.1 (u.1,(u.2.1,(u.2.2.1,())))) (ly.take lo++[(u.1,(u.2.1,(u.2.2.1,())))]++ly.drop lo):=by
 have hg:=P.get R;rw [if_neg (by simp)] at hg
 have hl:(yA .str m u.1 (u.1,(u.2.1,(u.2.2.1,())))).length=m.length+1:=by
  rw [sD xH,hg];rfl
 refine R.put (R.fine.set (by omega) hu rfl) ?_ (R.sub lo).1 (R.sub lo).2 P.low (P.no rfl) λk _=>by rw [List.take_append_drop]
 rw [hl,List.take_append_drop,R.len]
theorem fnd_skip {ly:List Ur} {lo:Nat} {nm k:Tx} (h:lo<ly.length) (he:(ly.getD lo nou).1=nm) (hk:k≠nm):ly.find? (λx=>decide (x.1=k))=(ly.take lo++ly.drop (lo+1)).find? (λx=>decide (x.1=k)):=by
 have e:ly.find? (λx=>decide (x.1=k))=(ly.take lo++ly.drop lo).find? (λx=>decide (x.1=k)):=by rw [List.take_append_drop]
 rw [e,List.find?_append,List.find?_append,List.drop_eq_getElem_cons h,List.find?_cons];rw [wn h] at he;rw [yv (λe=>hk (e.symm.trans he))]
theorem RelS.swap {m:Mp} {ly:List Ur} {u:ww} (R:RelS m ly) {lo:Nat} (P:Place ly u.1 lo true) (hu:Fine u) :
  RelS (yA .str m u.1 (u.1,(u.2.1,(u.2.2.1,())))) (ly.take lo++[(u.1,(u.2.1,(u.2.2.1,())))]++ly.drop (lo+1)):=by
 have hg:=P.get R;rw [if_pos rfl] at hg;obtain ⟨h1,h2,h3⟩:=P.yes rfl
 have hl:(yA .str m u.1 (u.1,(u.2.1,(u.2.2.1,())))).length=m.length:=by
  rw [sD xH,hg];rfl
 have hf:=R.few;have hle:=R.len;refine R.put (R.fine.set (by omega) hu rfl) ?_ (R.sub lo).1 (R.sub (lo+1)).2 P.low h3 λk hk=>fnd_skip h1 h2 hk
 rw [hl,xe,xG,sG];omega
theorem RelS.del {m:Mp} {ly:List Ur} {nm:Tx} (R:RelS m ly) {lo:Nat} (P:Place ly nm lo true):RelS (yk .str m nm) (ly.take lo++ly.drop (lo+1)) where
 fine:=R.fine.del nm
 rise:=by
  have hs:(ly.take lo++ly.drop (lo+1)).Sublist ly:=by
   have h:(ly.take lo++ly.drop (lo+1)).Sublist (ly.take lo++ly.drop lo):=List.Sublist.append_left (List.drop_sublist_drop_left _ (Nat.le_succ lo)) _;rw [List.take_append_drop] at h;exact h
  exact R.rise.sublist hs
 len:=by
  have hg:=P.get R;rw [if_pos rfl] at hg
  have:=mapDel_len xH hg
  have hle:=R.len;obtain ⟨h1,-,-⟩:=P.yes rfl;rw [xe,xG,sG];omega
 same:=λk=>by
  obtain ⟨h1,h2,h3⟩:=P.yes rfl;rw [mapGet_del xH R.fine.nodup]
  cases hq:yw .str k nm with
  | true =>
   have:k=nm:=(xH k nm).1 hq;subst this;rw [zI,List.find?_append,fnd_lt P.low,Option.none_or,fnd_gt h3]
  | false =>
   have:k≠nm:=λe=>by rw [(xH k nm).2 e] at hq;cases hq
   rw [zK,R.same,fnd_skip h1 h2 this]
theorem F61_both {m:Mp} {ly:List Ur} (R:RelS m ly) {u:ww} (hu:Fine u):∃ ly',F61 ((true,u,()),((ly,()),()))=some ((come m u).1,((ly',()),()))/\RelS (come m u).2 ly'/\((come m u).1≠0->(come m u).2=m/\ly'=ly):=by
 obtain ⟨lo,there,P⟩:=R.place u.1;have hf:=R.few;have hg:=P.get R;have hle:=R.len;obtain ⟨un,uv,ls,⟨⟩⟩:=u;unfold come;have f41:=P.f41;simp only at f41 hg P ⊢
 cases there with
 | true =>
  rw [if_pos rfl] at hg;rw [hg];refine ⟨ly,?_,?_,?_⟩
  ·simp only [F61,f41,zE,zI,Option.isSome_some,↓reduceIte]
  ·simp only [Option.isSome_some,↓reduceIte];exact R
  ·simp
 | false =>
  rw [if_neg (by simp)] at hg;rw [hg];simp only [Option.isSome_none,Bool.false_eq_true,↓reduceIte];by_cases h16:m.length=16
  ·rw [if_pos h16];refine ⟨ly,?_,R,λ_=>⟨rfl,rfl⟩⟩;have c:decide ((16:Int)<=((ly.length:Nat):Int))=true:=zm (by omega);simp only [F61,f41,zE,zK,zI,c]
  ·rw [if_neg h16];have hf2:=R.fine.few;have c:decide ((16:Int)<=((ly.length:Nat):Int))=false:=yv (by omega);have e63:=F63_eq ly [(un,(uv,(ls,())))] lo lo (by omega) (by simp) P.le P.le;refine ⟨ly.take lo++[(un,(uv,(ls,())))]++ly.drop lo,?_,?_,?_⟩
   ·simp only [F61,f41,zE,zK,zI,c,e63]
   ·exact R.ins (u:=(un,uv,ls,())) P hu (by omega)
   ·simp
end Go.So
