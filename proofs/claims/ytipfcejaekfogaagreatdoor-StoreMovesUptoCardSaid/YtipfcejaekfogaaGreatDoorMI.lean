/- Texts that the last one leans on, 9. -/
import Derived.Test.YtipfcejaekfogaaGreatDoorMH
namespace Go.So
open Go Go.Ev
set_option maxRecDepth 100000
def pfx (s p:Tx):Bool:=decide (p.length<=s.length)&&decide (s.take p.length=p)
theorem F153_eq (s p:Tx):F153 ((s,p,()),())=some (pfx s p,()):=by
 have e:decide (((p.length:Nat):Int)<=((s.length:Nat):Int))=decide (p.length<=s.length):=by rw [decide_eq_decide];omega
 have c1:decide ((0:Int)<=((p.length:Nat):Int))=true:=dTt (by omega)
 unfold pfx
 simp only [F153,e,c1,Bool.true_and,nCt]
 cases decide (p.length<=s.length) <;> simp
def moves (nm frm:Tx):Bool:=decide (nm=frm)||pfx nm (frm++[47])
def undr (nm frm tt:Tx):Tx:=if moves nm frm=true then tt++nm.drop frm.length else nm
theorem pfx_le {s p:Tx} (h:pfx s p=true):p.length<=s.length:=by
 unfold pfx at h
 simp only [bAt,dTe] at h
 exact h.1
theorem F102_eq (nm frm tt:Tx) (h1:nm.length<=1100000) (h2:frm.length<=1100000) (h3:tt.length<=1100000):F102 ((nm,frm,tt,()),())=some ((undr nm frm tt,moves nm frm,()),()):=by
 have f1:fits (frm.length+([47]:List UInt8).length)=true:=dTt (by simp;omega)
 have e135:F135 ((nm,frm++[47],()),())=some (pfx nm (frm++[47]),()):=by simp only [F135,F153_eq,oBs]
 have c1:decide ((0:Int)<=((frm.length:Nat):Int))=true:=dTt (by omega)
 have f2:fits (tt.length+(nm.drop frm.length).length)=true:=dTt (by rw [List.length_drop];omega)
 have t1:(nm.drop frm.length).take (nm.length-frm.length)=nm.drop frm.length:=List.take_of_length_le (by rw [List.length_drop];omega)
 unfold undr moves
 by_cases he:nm=frm
 ·subst he
  simp only [F102,f1,Bool.true_or,cTt,dTr,Bool.not_true,cFf,c1,Int.le_refl,bAs,nCt,t1,f2,↓reduceIte]
 ·cases hp:pfx nm (frm++[47]) with
  | false =>
   simp only [F102,f1,Bool.true_or,cTt,dFf he,Bool.not_false,e135,oBs,hp,cFf,Bool.or_self,Bool.false_eq_true,↓reduceIte]
  | true =>
   have hl:=pfx_le hp
   rw [List.length_append] at hl
   have c2:decide (((frm.length:Nat):Int)<=((nm.length:Nat):Int))=true:=dTt (by omega)
   simp only [F102,f1,Bool.true_or,cTt,dFf he,Bool.not_false,e135,oBs,hp,c1,c2,Int.le_refl,dTr,bAs,nCt,t1,f2,Bool.or_true,↓reduceIte]
def ren (frm tt:Tx) (b:Bx):Bx:=(undr b.1 frm tt,(b.2.1,(b.2.2.1,(b.2.2.2.1,()))))
abbrev R77:Type:=((Unit×Unit×Int×Unit)×((Tx×Int×Unit×Unit)×((Unit×Unit×Unit×Unit)×(List Bx×(List Bx×Unit)))))⊕((Unit×Unit×Unit×Unit)×((Tx×Int×Unit×Unit)×(List Bx×Unit)))
theorem L77_0_ex (un:Tx) (uv:Int) (d:Dd) (ls xs:List Bx) (hl:ls.length<=6) (hn:∀ b∈ls,rightB b.1=true) (h2:d.2.2.1.length<=1100000) (h3:d.2.2.2.1.length<=1100000) :
  ∃ r:R77,L77_0 (((),(),(),(0:Int),(),((ls.length:Nat):Int),(0:Int),()),((un,uv,(),()),d,((),(),(),()),ls,xs,()))=some r /\
   match r with
   | .inl q=>∃ n,q=(((),(),n,()),((un,uv,(),()),((),(),(),()),ls.map (ren d.2.2.1 d.2.2.2.1),xs,()))/\∀ b∈ls,rightB (undr b.1 d.2.2.1 d.2.2.2.1)=true
   | .inr q=>∃ cur,q=(((),(),(),()),((un,uv,(),()),cur,())):=by
 obtain ⟨dd,du,db,dt,uid,how,fl,ds,de,by',⟨⟩⟩:=d
 simp only at h2 h3 ⊢
 have hF:=FUEL_big
 unfold L77_0
 refine loop_ind (f:=B77_0) (λp=>∃ (i:Nat) (n:Int),i<=ls.length/\(∀ k,k<i->rightB (undr (ls.getD k nob).1 db dt)=true) /\
   p=(((),(),(),n,(),((ls.length:Nat):Int),(i:Int),()),((un,uv,(),()),(dd,du,db,dt,uid,how,fl,ds,de,by',()),((),(),(),()),(ls.take i).map (ren db dt)++ls.drop i,xs,())))
  (λp=>ls.length-p.1.2.2.2.2.2.2.1.toNat) _ ?_ ⟨0,0,Nat.zero_le _,λk hk=>absurd hk (Nat.not_lt_zero _),by simp⟩ (by simp only;omega)
 rintro p ⟨i,n,hi,hk,rfl⟩
 rcases Nat.lt_or_ge i ls.length with h | h
 ·have d0:decide ((i:Int)<((ls.length:Nat):Int))=true:=dTt (by omega)
  have d1:decide ((0:Int)<=(i:Int))=true:=dTt (by omega)
  have w1:w64 ((i:Int)+1)=((i+1:Nat):Int):=by rw [w64_id (by omega) (by omega)];rfl
  have hlen:((ls.take i).map (ren db dt)++ls.drop i).length=ls.length:=by simp;omega
  have hti:((ls.take i).map (ren db dt)).length=i:=by simp;omega
  obtain ⟨⟨bn,bv,bx,bl,⟨⟩⟩,hb⟩:∃ b,ls[i]=b:=⟨_,rfl⟩
  have hcur:(ls.take i).map (ren db dt)++ls.drop i=(ls.take i).map (ren db dt)++((bn,(bv,(bx,(bl,()))))::ls.drop (i+1)):=by
   rw [List.drop_eq_getElem_cons h,hb]
  have hg:((ls.take i).map (ren db dt)++ls.drop i).getD i (([]:List UInt8),((0:Int),((0:Int),(([]:(List Ltr)),()))))=(bn,(bv,(bx,(bl,())))):=by
   rw [hcur,List.getD_eq_getElem?_getD,List.getElem?_append_right (by omega),hti,Nat.sub_self]
   rfl
  have hset:∀ x:Bx,((ls.take i).map (ren db dt)++ls.drop i).set i x=(ls.take i).map (ren db dt)++(x::ls.drop (i+1)):=λx=>by
   rw [hcur]
   have:=append_set ((ls.take i).map (ren db dt)) (ls.drop (i+1)) (bn,(bv,(bx,(bl,())))) x
   rw [hti] at this
   exact this
  have hnext:(ls.take i).map (ren db dt)++((undr bn db dt,(bv,(bx,(bl,()))))::ls.drop (i+1))=(ls.take (i+1)).map (ren db dt)++ls.drop (i+1):=by
   rw [List.take_succ_eq_append_getElem h,List.map_append,List.map_cons,hb]
   simp [ren]
  have hbn:bn.length<=24:=by
   have:=name_le (hn ls[i] (List.getElem_mem h))
   rw [hb] at this
   exact this
  have e102:=F102_eq bn db dt (by omega) h2 h3
  have e70:=F70_eq (undr bn db dt)
  generalize hC:(ls.take i).map (ren db dt)++ls.drop i=C at hlen hg hset
  cases hr:rightB (undr bn db dt) with
  | false =>
   rw [hr] at e70
   right
   refine ⟨.inr (((),(),(),()),((un,uv,(),()),C,())),?_,_,rfl⟩
   cases hm:moves bn db with
   | false =>
    rw [hm] at e102
    simp only [B77_0,d0,d1,hlen,bAs,cTt,cFf,nCt,oBs,hg,e102,e70,Bool.not_false]
   | true =>
    rw [hm] at e102
    simp only [B77_0,d0,d1,hlen,bAs,cTt,nCt,oBs,hg,e102,e70,Bool.not_false]
  | true =>
   rw [hr] at e70
   left
   have hgood:∀ k,k<i+1->rightB (undr (ls.getD k nob).1 db dt)=true:=λk hk'=>by
    rcases Nat.lt_or_ge k i with h' | h'
    ·exact hk k h'
    ·obtain rfl:k=i:=by omega
     rw [List.getD_eq_getElem?_getD,List.getElem?_eq_getElem h,hb]
     exact hr
   cases hm:moves bn db with
   | false =>
    rw [hm] at e102
    refine ⟨_,by simp only [B77_0,d0,d1,hlen,bAs,cTt,cFf,nCt,oBs,hg,e102,e70,Bool.not_true,hset,hnext,w1];rfl,⟨i+1,_,h,hgood,rfl⟩,?_⟩
    simp only;omega
   | true =>
    rw [hm] at e102
    refine ⟨_,by simp only [B77_0,d0,d1,hlen,bAs,cTt,cFf,nCt,oBs,hg,e102,e70,Bool.not_true,hset,hnext,w1];rfl,⟨i+1,_,h,hgood,rfl⟩,?_⟩
    simp only;omega
 ·have hi':i=ls.length:=by omega
  subst hi'
  right
  refine ⟨.inl (((),(),n,()),((un,uv,(),()),((),(),(),()),ls.map (ren db dt),xs,())),?_,n,rfl,λb hb=>?_⟩
  ·simp only [B77_0,Int.lt_irrefl,decide_false,cFf,List.take_length,List.drop_length,List.append_nil]
  ·obtain ⟨k,hk',rfl⟩:=List.getElem_of_mem hb
   have:=hk k hk'
   rw [List.getD_eq_getElem?_getD,List.getElem?_eq_getElem hk'] at this
   exact this
theorem L77_1_ex (un:Tx) (uv n:Int) (ls xs:List Bx) (h1:1<=ls.length) (hl:ls.length<=6) :
  ∃ r:R77,L77_1 (((),(),n,((ls.length-1:Nat):Int),(0:Int),()),((un,uv,(),()),((),(),(),()),ls,xs,()))=some r /\
   match r with
   | .inl q=>q=(((),(),n,()),((un,uv,(),()),((),(),(),()),ls,xs,()))/\∀ k,k+1<ls.length->(ls.getD k nob).1≠(ls.getD (k+1) nob).1
   | .inr q=>q=(((),(),(),()),((un,uv,(),()),ls,())):=by
 have hF:=FUEL_big
 unfold L77_1
 refine loop_ind (f:=B77_1) (λp=>∃ (i:Nat),i<=ls.length-1/\(∀ k,k<i->(ls.getD k nob).1≠(ls.getD (k+1) nob).1) /\
   p=(((),(),n,((ls.length-1:Nat):Int),(i:Int),()),((un,uv,(),()),((),(),(),()),ls,xs,())))
  (λp=>ls.length-p.1.2.2.2.2.1.toNat) _ ?_ ⟨0,Nat.zero_le _,λk hk=>absurd hk (Nat.not_lt_zero _),rfl⟩ (by simp only;omega)
 rintro p ⟨i,hi,hk,rfl⟩
 rcases Nat.lt_or_ge i (ls.length-1) with h | h
 ·have d0:decide ((i:Int)<((ls.length-1:Nat):Int))=true:=dTt (by omega)
  have d1:decide ((0:Int)<=(i:Int))=true:=dTt (by omega)
  have d2:decide ((i:Int)<((ls.length:Nat):Int))=true:=dTt (by omega)
  have w1:w64 ((i:Int)+1)=((i+1:Nat):Int):=by rw [w64_id (by omega) (by omega)];rfl
  have d3:decide ((0:Int)<=((i+1:Nat):Int))=true:=dTt (by omega)
  have d4:decide (((i+1:Nat):Int)<((ls.length:Nat):Int))=true:=dTt (by omega)
  by_cases he:(ls.getD i nob).1=(ls.getD (i+1) nob).1
  ·right
   refine ⟨.inr (((),(),(),()),((un,uv,(),()),ls,())),?_,rfl⟩
   simp only [B77_1,d0,d1,d2,w1,d3,d4,bAs,cTt,nCt,he,dTr]
  ·left
   refine ⟨_,by simp only [B77_1,d0,d1,d2,w1,d3,d4,bAs,cTt,nCt,he,decide_false,cFf],⟨i+1,h,λk hk'=>?_,rfl⟩,?_⟩
   ·rcases Nat.lt_or_ge k i with h' | h'
    ·exact hk k h'
    ·obtain rfl:k=i:=by omega
     exact he
   ·simp only;omega
 ·have hi':i=ls.length-1:=by omega
  subst hi'
  right
  refine ⟨.inl (((),(),n,()),((un,uv,(),()),((),(),(),()),ls,xs,())),?_,rfl,λk hk'=>hk k (by omega)⟩
  simp only [B77_1,Int.lt_irrefl,decide_false,cFf]
theorem inbx_stays {frm:Tx} (tt:Tx) (h:frm≠inbx):undr inbx frm tt=inbx:=by
 have hp:pfx inbx (frm++[47])=false:=by
  cases hp:pfx inbx (frm++[47]) with
  | false=>rfl
  | true =>
   exfalso
   unfold pfx at hp
   simp only [bAt,dTe] at hp
   have:(47:UInt8)∈inbx:=by
    refine List.mem_of_mem_take (i:=(frm++[47]).length) ?_
    rw [hp.2]
    simp
   exact absurd this (by decide)
 unfold undr moves
 rw [hp,dFf (λh'=>h h'.symm)]
 rfl
theorem sum_perm {a b:List Bx} (h:a.Perm b):tot a=tot b/\bts a=bts b:=⟨(h.map _).sum_nat,(h.map _).sum_nat⟩
theorem ren_sums (f t:Tx) (ls:List Bx):tot (ls.map (ren f t))=tot ls/\bts (ls.map (ren f t))=bts ls:=by
 unfold tot bts
 rw [List.map_map,List.map_map]
 exact ⟨rfl,rfl⟩
theorem F77_ex {u:Usr} (G:Fine u) (d:Dd) (h3:d.2.2.2.1.length<=1100000):∃ R:Usr×Int×Int×Unit,F77 ((u,d,()),())=some (R,())/\(R.2.2.1=0->Fine R.1/\R.1.1=u.1):=by
  obtain ⟨un,uv,ls,⟨⟩⟩:=u
  obtain ⟨lo,e39,_,_,_,h5,_⟩:=F39_eq (un,uv,ls,()) d.2.2.1 (Nat.le_trans G.good.few (by omega)) G.good.rise
  obtain ⟨dd,du,db,dt,uid,how,fl,ds,de,by',⟨⟩⟩:=d
  have g1:=G.good.few
  have g3:=G.good.each
  have g4:=G.good.below
  have g5:=G.names
  have g6:=G.inb
  have g7:=G.room
  simp only at h3 e39 h5 g1 g3 g4 g5 g6 g7
  cases hh:hasB ls db with
  | false =>
    rw [hh] at e39
    exact ⟨((un,uv,ls,()),0,9,()),by simp only [F77,e39,oBs,Bool.not_false,cTt],λh=>by simp at h⟩
  | true =>
    rw [hh] at e39
    obtain ⟨k1,k2⟩:=h5 hh
    by_cases hin:db=inbx
    . refine ⟨((un,uv,ls,()),0,13,()),?_,λh=>by simp at h⟩
      have:decide (db=([73,78,66,79,88]:List UInt8))=true:=dTt hin
      simp only [F77,e39,oBs,Bool.not_true,cFf,this,cTt]
    . have hdi:decide (db=([73,78,66,79,88]:List UInt8))=false:=dFf hin
      have e30:=F30_eq ls (by omega)
      have hdb:db.length<=24:=by
        have:=name_le (g5 _ (getD_mem k1))
        rw [k2] at this
        exact this
      obtain ⟨r,e0,hr⟩:=L77_0_ex un uv (dd,du,db,dt,uid,how,fl,ds,de,by',()) ls [] g1 g5 (by simp only;omega) h3
      cases r with
      | inr q =>
        obtain ⟨cur,rfl⟩:=hr
        exact ⟨((un,uv,cur,()),0,6,()),by simp only [F77,e39,oBs,Bool.not_true,cFf,hdi,e30,e0],λh=>by simp at h⟩
      | inl q =>
        obtain ⟨n,rfl,hnm⟩:=hr
        simp only at hnm
        have hp:(srtB (ls.map (ren db dt))).Perm (ls.map (ren db dt)):=srtBy_perm _ _ _
        have hs:(srtB (ls.map (ren db dt))).Pairwise λa b=>¬ b.1<a.1:=srtBy_sorted _ _ _
        have hlen:(srtB (ls.map (ren db dt))).length=ls.length:=by rw [hp.length_eq,List.length_map]
        have hok:srtBOK (ls.map (ren db dt))=true:=by
          unfold srtBOK
          simp only [List.length_map,bAt,dTe,Bool.not_eq_true',List.isEmpty_eq_false_iff]
          refine ⟨by omega,λh=>?_⟩
          have:=congrArg List.length h
          rw [List.length_map,List.length_nil] at this
          omega
        obtain ⟨S,hS⟩:∃ S,srtB (ls.map (ren db dt))=S:=⟨_,rfl⟩
        rw [hS] at hp hs hlen
        obtain ⟨r,e1,hr⟩:=L77_1_ex un uv n S [] (by omega) (by omega)
        have c1:decide ((1:Int)<=((S.length:Nat):Int))=true:=dTt (by omega)
        cases r with
        | inr q =>
          obtain rfl:=hr
          exact ⟨((un,uv,S,()),0,10,()),by simp only [F77,e39,oBs,Bool.not_true,cFf,hdi,e30,e0,hok,cTt,hS,c1,Int.le_refl,dTr,bAs,nCt,e1],λh=>by simp at h⟩
        | inl q =>
          obtain ⟨rfl,hd⟩:=hr
          refine ⟨((un,uv,S,()),n,0,()),by simp only [F77,e39,oBs,Bool.not_true,cFf,hdi,e30,e0,hok,cTt,hS,c1,Int.le_refl,dTr,bAs,nCt,e1],λ_=>⟨?_,rfl⟩⟩
          have hmem:∀ b∈S,∃ a∈ls,ren db dt a=b:=λb hb=>List.mem_map.1 (hp.mem_iff.1 hb)
          have hrise:S.Pairwise λa b=>a.1<b.1:=rise_of λk hk=>by
            have h1:=List.pairwise_iff_getElem.1 hs k (k+1) (by omega) hk (by omega)
            have h2:=hd k hk
            rw [List.getD_eq_getElem?_getD,List.getD_eq_getElem?_getD,List.getElem?_eq_getElem (show k<S.length by omega),List.getElem?_eq_getElem hk] at h2 ⊢
            exact tx_total h1 λe=>h2 e.symm
          have heach:∀ b∈S,Right (bxOf b):=λb hb=>by
            obtain ⟨a,ha,rfl⟩:=hmem b hb
            have R:=g3 a ha
            exact ⟨R.valid,R.next,R.few,R.each,R.rise⟩
          have hfew:S.length<=6:=by omega
          have hsum:=sum_perm hp
          have hsum2:=ren_sums db dt ls
          have hroom:=(wth_iff g3 g1).1 g7
          exact {
            good:=⟨hfew,hrise,heach,G.good.valid,λb hb=>by
              obtain ⟨a,ha,rfl⟩:=hmem b hb
              exact g4 a ha⟩
            user:=G.user
            names:=λb hb=>by
              obtain ⟨a,ha,rfl⟩:=hmem b hb
              exact hnm a ha
            inb:=by
              obtain ⟨b,hb,hbn⟩:=g6
              refine ⟨ren db dt b,hp.mem_iff.2 (List.mem_map_of_mem hb),?_⟩
              unfold ren
              rw [hbn]
              exact inbx_stays dt hin
            room:=by
              show wth S=true
              rw [wth_iff heach hfew]
              omega }
structure FineM (m:Mp):Prop where
 nodup:(m.map (·.1)).Nodup
 few:m.length<=16
 fine:∀ (k:Tx) u,mapGet .str m k=some u->Fine (usr u)/\u.1=k
theorem FineM.nil:FineM []:=⟨List.nodup_nil,Nat.zero_le _,λk u h=>by cases h⟩
theorem FineM.set {m:Mp} (G:FineM m) {k:Tx} {u:Usr} (hl:(mapSet .str m k (u.1,(u.2.1,(u.2.2.1,())))).length<=16) (hu:Fine u) (hk:u.1=k):FineM (mapSet .str m k (u.1,(u.2.1,(u.2.2.1,())))) where
 nodup:=mapSet_nd KE_str G.nodup
 few:=hl
 fine:=λk' u' h=>by
  rw [mapGet_set KE_str G.nodup] at h
  cases hq:keyEq .str k' k with
  | true =>
   rw [hq,cTt,oSi] at h
   subst h
   have:k'=k:=(KE_str k' k).1 hq
   exact ⟨hu,hk.trans this.symm⟩
  | false =>
   rw [hq,cFf] at h
   exact G.fine k' u' h
theorem FineM.del {m:Mp} (G:FineM m) (k:Tx):FineM (mapDel .str m k) where
 nodup:=mapDel_nd (t:=.str) G.nodup
 few:=Nat.le_trans (mapDel_sub (t:=.str) m k).length_le G.few
 fine:=λk' u' h=>by
  rw [mapGet_del KE_str G.nodup] at h
  cases hq:keyEq .str k' k with
  | true=>rw [hq,cTt] at h;cases h
  | false =>
   rw [hq,cFf] at h
   exact G.fine k' u' h
theorem come_fine {m:Mp} (G:FineM m) {u:Usr} (hu:Fine u):FineM (come m u).2:=by
 unfold come
 split
 ·exact G
 ·rename_i h1
  split
  ·exact G
  ·rename_i h2
   refine G.set ?_ hu rfl
   rw [mapSet_len KE_str]
   have:=G.few
   cases (mapGet .str m u.1).isSome
   ·simp only [cFf];omega
   ·simp only [cTt];omega
theorem kept_fine {m:Mp} (G:FineM m) {user:Tx} {u:Tx×(Int×(List Bx×Unit))} (hm:mapGet .str m user=some u) (r:Usr×Int×Int×Unit) (h:r.2.2.1=0->Fine r.1/\r.1.1=user):FineM (kept m user r).2:=by
 unfold kept
 simp only
 split
 ·rename_i h0
  refine G.set ?_ (h h0).1 (h h0).2
  rw [mapSet_len KE_str,hm]
  exact G.few
 ·exact G
theorem F48_enter (m:Mp) (d:Dd) (u:Usr) (hc:F73 ((d,()),())=some (0,())) (h8:d.1=8) (h75:F75 ((d.2.2.2.2.2.2.2.2.2.1,()),())=some ((u,0,()),())) :
  F48 ((true,d,()),(((),()),m,()))=some ((0,(come m u).1,()),(((),()),(come m u).2,())):=by
 obtain ⟨dd,du,db,dt,uid,how,fl,ds,de,by',⟨⟩⟩:=d
 obtain ⟨un,uv,ls,⟨⟩⟩:=u
 simp only at h8 h75
 subst h8
 have e74:=F74_eq m (un,uv,ls,())
 simp only [F48,hc,oBs,dTr,Bool.not_true,cFf,cTt,agr_self,z81,h75,e74]
theorem F48_rename (m:Mp) (d:Dd) (u:Tx×(Int×(List Bx×Unit))) (R:Usr×Int×Int×Unit) (hc:F73 ((d,()),())=some (0,())) (h7:d.1=7) (hm:mapGet .str m d.2.1=some u)
  (h77:F77 ((usr u,d,()),())=some (R,())) :
  F48 ((true,d,()),(((),()),m,()))=some ((kept m d.2.1 R).1,(((),()),(kept m d.2.1 R).2,())):=by
 obtain ⟨dd,du,db,dt,uid,how,fl,ds,de,by',⟨⟩⟩:=d
 obtain ⟨un,uv,ls,⟨⟩⟩:=u
 obtain ⟨⟨ru,rv,rl,⟨⟩⟩,rn,re,⟨⟩⟩:=R
 simp only at h7 hm
 subst h7
 unfold usr at h77
 simp only at h77
 simp only [F48,hc,oBs,dTr,Bool.not_true,cFf,cTt,agr_self,hm,z71,z78,z72,z73,Option.isSome_some,Option.getD_some,h77,kept]
 by_cases hr:re=0
 ·simp [hr]
 ·simp [hr]
theorem F48_leave (m:Mp) (d:Dd) (u:Tx×(Int×(List Bx×Unit))) (hc:F73 ((d,()),())=some (0,())) (h9:d.1=9) (hm:mapGet .str m d.2.1=some u) :
  F48 ((true,d,()),(((),()),m,()))=some ((0,0,()),(((),()),mapDel .str m d.2.1,())):=by
 obtain ⟨dd,du,db,dt,uid,how,fl,ds,de,by',⟨⟩⟩:=d
 obtain ⟨un,uv,ls,⟨⟩⟩:=u
 simp only at h9 hm
 subst h9
 simp only [F48,hc,oBs,dTr,Bool.not_true,cFf,cTt,agr_self,hm,z91,z98,z92,z93,z97,Option.isSome_some,Option.getD_some]
theorem F48_fine {m:Mp} (G:FineM m) (d:Dd) (hu:d.2.1.length<=1100000) (ht:d.2.2.2.1.length<=1100000) :
  ∃ n e m',F48 ((true,d,()),(((),()),m,()))=some ((n,e,()),(((),()),m',()))/\FineM m':=by
 obtain ⟨e0,hc,hC⟩:=F73_ex d (Nat.le_trans hu (by decide))
 by_cases he0:e0=0
 ·subst he0
  obtain ⟨C,hE⟩:=hC rfl
  by_cases h1:d.1=1
  ·exact ⟨_,_,_,F48_open m d hc h1,come_fine G (new_fine C.user)⟩
  ·by_cases h8:d.1=8
   ·obtain ⟨u,h75,_,hF⟩:=hE h8
    exact ⟨_,_,_,F48_enter m d u hc h8 h75,come_fine G hF⟩
   ·cases hm:mapGet .str m d.2.1 with
    | none=>exact ⟨_,_,_,F48_gone m d hc h1 h8 hm,G⟩
    | some u =>
     obtain ⟨Fu,hk⟩:=G.fine d.2.1 u hm
     have Gu:Good u:=Fu.good
     by_cases h23:d.1=2\/d.1=3
     ·obtain ⟨lo,e1,e2,e3,e4,e5,e6⟩:=F76_eq u d (Nat.le_trans Gu.few (by decide)) Gu.rise
      refine ⟨_,_,_,F48_shape m d u lo hc h23 hm e1,kept_fine G hm _ λhe=>?_⟩
      by_cases h2:d.1=2
      ·obtain ⟨q1,q2⟩:=make_fine Fu d h2 e2 e3 e4 e6 (C.box h2) he
       exact ⟨q1,q2.trans hk⟩
      ·obtain ⟨q1,q2⟩:=drop_fine Fu d h2 e5 he
       exact ⟨q1,q2.trans hk⟩
     ·rw [not_or] at h23
      by_cases h7:d.1=7
      ·obtain ⟨R,e1,e2⟩:=F77_ex Fu d ht
       refine ⟨_,_,_,F48_rename m d u R hc h7 hm e1,kept_fine G hm _ λhe=>?_⟩
       obtain ⟨q1,q2⟩:=e2 he
       exact ⟨q1,q2.trans hk⟩
      ·by_cases h9:d.1=9
       ·exact ⟨_,_,_,F48_leave m d u hc h9 hm,G.del _⟩
       ·rcases F78_eq u d (Nat.le_trans Gu.few (by decide)) Gu.len Gu.rise with ⟨_,e1⟩ | ⟨lo,l1,l2,e1⟩
        ·exact ⟨_,_,_,F48_box m d u _ hc h1 h23.1 h23.2 h7 h8 h9 hm e1,kept_fine G hm _ λh=>absurd h (by simp)⟩
        ·refine ⟨_,_,_,F48_box m d u _ hc h1 h23.1 h23.2 h7 h8 h9 hm e1,kept_fine G hm _ λhe=>?_⟩
         obtain ⟨q1,q2⟩:=boxd_fine Fu l1 d he
         exact ⟨q1,q2.trans hk⟩
 ·exact ⟨0,e0,m,F48_bad m d e0 hc he0,G⟩
abbrev Small (d:Dd):Prop:=d.2.1.length<=1100000/\d.2.2.2.1.length<=1100000
abbrev R27:Type:=((Bool×Unit×Unit)×((Unit×Unit)×Mp×(List Int)×Unit))⊕((Bool×Unit×Int×Int×Unit)×((Unit×Unit)×Mp×(List Int)×Unit))
theorem L27_ex {m:Mp} (G:FineM m) (l:List Dd) (hs:∀ d∈l,Small d) (hl:l.length<=12) :
  ∃ r:R27,L27_0 ((true,(),l,((l.length:Nat):Int),(0:Int),()),(((),()),m,([]:List Int),()))=some r /\
   match r with
   | .inl q=>∃ m' o,q=((true,(),()),(((),()),m',o,()))/\FineM m'
   | .inr q=>∃ i e m' o,q=((true,(),i,e,()),(((),()),m',o,()))/\FineM m':=by
 have hF:=FUEL_big
 unfold L27_0
 refine loop_ind (f:=B27_0) (λp=>∃ (i:Nat) (m':Mp) (o:List Int),i<=l.length/\o.length<=i/\FineM m'/\p=((true,(),l,((l.length:Nat):Int),(i:Int),()),(((),()),m',o,()))) (λp=>l.length-p.1.2.2.2.2.1.toNat) _ ?_
  ⟨0,m,[],Nat.zero_le _,Nat.le_refl _,G,rfl⟩ (by simp only;omega)
 rintro p ⟨i,m',o,hi,ho,G',rfl⟩
 rcases Nat.lt_or_ge i l.length with h | h
 ·have d0:decide ((i:Int)<((l.length:Nat):Int))=true:=dTt (by omega)
  have d1:decide ((0:Int)<=(i:Int))=true:=dTt (by omega)
  have w1:w64 ((i:Int)+1)=((i+1:Nat):Int):=by rw [w64_id (by omega) (by omega)];rfl
  obtain ⟨d,hd⟩:∃ d,l[i]=d:=⟨_,rfl⟩
  have hg:∀ z,l.getD i z=d:=λz=>by rw [List.getD_eq_getElem?_getD,List.getElem?_eq_getElem h,hd];rfl
  have hm:Small d:=hs d (by rw [<- hd];exact List.getElem_mem h)
  obtain ⟨n,e,m2,h48,G2⟩:=F48_fine G' d hm.1 hm.2
  obtain ⟨dd,du,db,dt,uid,how,fl,ds,de,by',⟨⟩⟩:=d
  by_cases he:e=0
  ·subst he
   left
   have hb:bytesOK (o.length+[n].length) 8=true:=bytes_ok (by simp only [List.length_singleton];omega)
   refine ⟨_,by simp only [B27_0,d0,d1,bAs,cTt,oBs,nCt,hg,h48,dTr,Bool.not_true,cFf,hb,w1];rfl,⟨i+1,m2,_,h,?_,G2,rfl⟩,?_⟩
   ·rw [List.length_append,List.length_singleton];omega
   ·simp only;omega
  ·right
   refine ⟨.inr ((true,(),(i:Int),e,()),(((),()),m2,[],())),?_,_,_,_,_,rfl,G2⟩
   simp only [B27_0,d0,d1,bAs,cTt,oBs,nCt,hg,h48,dFf he,Bool.not_false]
 ·have hi':i=l.length:=by omega
  subst hi'
  right
  refine ⟨.inl ((true,(),()),(((),()),m',o,())),?_,_,_,rfl,G'⟩
  simp only [B27_0,Int.lt_irrefl,decide_false,cFf]
theorem F12_eq {m:Mp} {name:Tx} {u:Tx×(Int×(List Bx×Unit))} (hm:mapGet .str m name=some u) (G:Good (usr u)) :
  F12 ((true,name,()),(((),()),m,()))=some (((u.1,u.2.1,(),()),0,()),(((),()),m,u.2.2.1,())):=by
 obtain ⟨un,uv,ls,⟨⟩⟩:=u
 have hF:=FUEL_big
 have hl:ls.length<=6:=G.few
 have e30:=F30_eq ls (by omega)
 have hL:∀ xs:List Bx,L12_0 ((true,(),(),(),((ls.length:Nat):Int),(0:Int),()),(((),()),m,((),(),(),()),(un,uv,(),()),ls,xs,()))=some ((true,(),(),()),(((),()),m,((),(),(),()),(un,uv,(),()),xs,ls,())):=λxs=>by
  unfold L12_0
  refine (walk_list (f:=B12_0) (λ(_:Unit) i=>((true,(),(),(),((ls.length:Nat):Int),(i:Int),()),(((),()),m,((),(),(),()),(un,uv,(),()),ls,xs,()))) ls (λ_ _=>.inl ()) (λ_=>((true,(),(),()),(((),()),m,((),(),(),()),(un,uv,(),()),xs,ls,())))
   (λb i a hi ha=>?_) (λb=>?_) (by omega) (b:=())).trans ?_
  ·have hma:a∈ls:=by
    have:=ha nob
    rw [List.getD_eq_getElem?_getD,List.getElem?_eq_getElem hi] at this
    rw [<- this]
    exact List.getElem_mem hi
   have R:=G.each a hma
   have e31:=F31_eq (bxOf a) R.few λl hl'=>(R.each l hl').2.2.2
   unfold bxOf at e31
   have d0:decide ((i:Int)<((ls.length:Nat):Int))=true:=dTt (by omega)
   have d1:decide ((0:Int)<=(i:Int))=true:=dTt (by omega)
   have w1:w64 ((i:Int)+1)=((i+1:Nat):Int):=by rw [w64_id (by omega) (by omega)];rfl
   have hset:ls.set i (a.1,(a.2.1,(a.2.2.1,(a.2.2.2.1,()))))=ls:=set_same ls i _ ha
   simp only [B12_0,d0,d1,bAs,cTt,oBs,nCt,ha,e31,hset,w1]
  ·simp only [B12_0,Int.lt_irrefl,decide_false,cFf]
  ·have:∀ (l:List Bx) (z:(Bool×Unit×Unit×Unit)×((Unit×Unit)×Mp×(Unit×Unit×Unit×Unit)×(Tx×Int×Unit×Unit)×List Bx×List Bx×Unit)),foldS (λ(_:Bx) (_:Unit)=>(.inl ():Unit⊕_)) (λ_=>z) () l=z:=λl z=>by
    induction l with
    | nil=>rfl
    | cons a t ih=>exact ih
   rw [this]
 simp only [F12,Bool.not_true,cFf,cTt,oBs,hm,Option.isSome_some,Option.getD_some,e30,hL]
theorem keys_perm (m:Mp):(keysL m).Perm (m.map (·.1)):=List.mergeSort_perm _ _
theorem tx_le_total (a b:Tx):(decide (a<=b)||decide (b<=a))=true:=by
 rcases List.le_total a b with h | h
 ·simp [h]
 ·simp [h]
theorem keys_rise {m:Mp} (hn:(m.map (·.1)).Nodup):(keysL m).Pairwise λa b=>a<b:=by
 have hs:(keysL m).Pairwise λa b=>(decide (a<=b))=true:=List.pairwise_mergeSort (λa b c h1 h2=>by
  simp only [dTe] at h1 h2 ⊢
  exact List.le_trans h1 h2) tx_le_total _
 have hd:(keysL m).Nodup:=(keys_perm m).nodup_iff.2 hn
 have:=hs.and hd
 exact this.imp λ{a b} h=>by
  obtain ⟨h1,h2⟩:=h
  simp only [dTe] at h1
  have h3:¬ b<a:=List.not_lt.2 h1
  exact tx_total h3 λe=>h2 e.symm
theorem F11_eq {m:Mp} (G:FineM m):F11 ((true,()),(((),()),m,()))=some ((),(((),()),m,keysL m,())):=by
 have hk:keysOK m=true:=by
  unfold keysOK
  simp only [bAt,dTe,List.all_eq_true]
  refine ⟨Nat.le_trans G.few (by decide),λp hp=>?_⟩
  have hg:=mapGet_mem KE_str G.nodup (k:=p.1) (x:=p.2) hp
  obtain ⟨F,he⟩:=G.fine p.1 p.2 hg
  rw [<- he]
  exact Nat.le_trans (user_le F.user) (by decide)
 simp only [F11,Bool.not_true,cFf,cTt,hk]
theorem L34_eq (nm:List UInt8) (v n:Int) (ls:List Ltr) (hl:ls.length<=32):L34_0 (((),(0:Int),()),((nm,v,n,ls,()),()))=some (chk n ls):=by
 have hF:=FUEL_big
 refine walk_listI (f:=B34_0) (λ(_:Int) i=>(((),(i:Int),()),((nm,v,n,ls,()),()))) ls (chk1 n) _ (λb i=>0<=b/\(i=0->b=0)/\(∀ d,0<i->(ls.getD (i-1) d).1=b))
  (λb i a hI hi ha=>?_) (λb _=>?_) (by omega) ⟨by omega,λ_=>rfl,λ_ h=>absurd h (Nat.lt_irrefl _)⟩
 ·obtain ⟨hb,hb0,hbp⟩:=hI
  have hw:0<i->w64 ((i:Int)-1)=((i-1:Nat):Int):=λh=>by
   rw [w64_id (by omega) (by omega)];omega
  have hc:(decide (a.1<(1:Int))||decide (n<=a.1)||(decide ((0:Int)<(i:Int))&&decide (a.1<=(ls.getD (Int.toNat (w64 ((i:Int)-1))) ((0:Int),((0:UInt8),(([]:(List UInt8)),())))).1)))=decide (a.1<=b\/n<=a.1):=by
   by_cases h0:0<i
   ·rw [hw h0,nCt,hbp _ h0]
    rw [Bool.eq_iff_iff]
    simp only [Bool.or_eq_true,bAt,dTe]
    omega
   ·have:=hb0 (by omega)
    rw [Bool.eq_iff_iff]
    simp only [Bool.or_eq_true,bAt,dTe]
    omega
  have hg:(((decide ((0:Int)<=(w64 ((i:Int)-(1:Int)))))&&(decide ((w64 ((i:Int)-(1:Int)))<(((List.length ls):Nat):Int))))||(!((decide ((0:Int)<(i:Int)))&&(!((decide (a.1<(1:Int)))||(decide (n<=a.1)))))))=true:=by
   by_cases h0:0<i
   ·rw [hw h0,nat_nn,nat_lt]
    simp;omega
   ·simp [h0]
  simp only [B34_0,nat_lt,nat_nn,hi,dTr,Bool.and_true,cTt,oBs,nCt,ha]
  rw [hg,hc]
  simp only [cTt,oBs]
  unfold chk1
  by_cases h1:a.1<=b\/n<=a.1
  ·exact .inr ⟨_,if_pos h1,by simp [h1]⟩
  ·simp only [h1,↓reduceIte]
   by_cases h2:32<=a.2.1.toNat
   ·exact .inr ⟨_,if_pos h2,by
     have h2':31<a.2.1.toNat:=by omega
     simp [h2']⟩
   ·have h2':¬ 31<a.2.1.toNat:=by omega
    rw [if_neg h2]
    by_cases h3:600<a.2.2.1.length
    ·have h3':(600:Int)<(a.2.2.1.length:Int):=by omega
     exact .inr ⟨_,if_pos h3,by simp [h2',h3']⟩
    ·have h3':¬ (600:Int)<(a.2.2.1.length:Int):=by omega
     exact .inl ⟨_,if_neg h3,⟨by omega,by omega,λd _=>by rw [Nat.add_sub_cancel,ha]⟩,by simp [h2',h3',w64_id (n:=(i:Int)+1) (by omega) (by omega)]⟩
 ·simp only [B34_0,Int.lt_irrefl,decide_false,cFf]
theorem F34c_eq (b:Box):F34 ((b,()),())=some (check b,()):=by
 obtain ⟨nm,v,n,ls,u⟩:=b
 cases u
 simp only [F34,check]
 by_cases h1:v<1\/4294967295<v\/n<1\/4294967295<n
 ·have e:(decide (v<(1:Int))||decide ((4294967295:Int)<v)||decide (n<(1:Int))||decide ((4294967295:Int)<n))=true:=by
   simp only [Bool.or_eq_true,dTe];omega
  simp only [h1,↓reduceIte,e,cTt]
 ·have e:(decide (v<(1:Int))||decide ((4294967295:Int)<v)||decide (n<(1:Int))||decide ((4294967295:Int)<n))=false:=by
   simp only [Bool.or_eq_false_iff,decide_eq_false_iff_not];omega
  simp only [h1,↓reduceIte,e,cFf]
  by_cases h3:32<ls.length
  ·have h3':(32:Int)<(ls.length:Int):=by omega
   simp [h3,h3']
  ·have h3':¬ (32:Int)<(ls.length:Int):=by omega
   simp only [h3,h3',L34_eq nm v n ls (by omega),decide_false,cFf,oBs,↓reduceIte]
   cases chk n ls <;> rfl
theorem F66_eq (b:Box) (f:UInt8) (p:List UInt8):F66 ((b,f,p,()),())=some (add b f p,()):=by
 have e34:=F34c_eq b
 have ez:=check_zero (b:=b)
 obtain ⟨nm,v,n,ls,u⟩:=b
 cases u
 unfold add
 simp only [F66,e34,oBs]
 generalize hc:check (nm,v,n,ls,())=c at *
 by_cases h0:c=0
 ·have R:=ez.mp h0
  have hr:=R.few
  have hn:=R.next
  simp only at hr hn
  simp only [h0,ne_eq,not_true_eq_false,↓reduceIte,dTr,Bool.not_true,cFf]
  by_cases h1:32<=f.toNat
  ·have h1':31<f.toNat:=by omega
   simp [h1,h1',empty]
  ·have h1':¬ 31<f.toNat:=by omega
   by_cases h2:600<p.length
   ·have h2':(600:Int)<(p.length:Int):=by omega
    simp [h1,h1',h2,h2',empty]
   ·have h2':¬ (600:Int)<(p.length:Int):=by omega
    by_cases h3:ls.length=32\/n=4294967295
    ·have h3':(decide ((31:Int)<((ls.length:Nat):Int))||decide (4294967294<n))=true:=by
      simp only [Bool.or_eq_true,dTe];omega
     simp [h1,h1',h2,h2',h3,h3',empty]
    ·have h3':(decide ((31:Int)<((ls.length:Nat):Int))||decide (4294967294<n))=false:=by
      simp only [Bool.or_eq_false_iff,decide_eq_false_iff_not];omega
     have hb:bytesOK (ls.length+1) 40=true:=bytes_ok (by omega)
     have hb1:bytesOK ls.length 40=true:=bytes_ok (by omega)
     have hb2:bytesOK p.length 1=true:=bytes_ok (by omega)
     simp only [show UInt8.toNat 31=31 from rfl,h1,h1',h2,h2',h3,h3',decide_false,cFf,oBs,↓reduceIte,List.length_cons,List.length_nil,Nat.zero_add,hb,hb1,hb2,cTt,List.nil_append,
      w64_id (n:=n+1) (by omega) (by omega),agr_self]
 ·simp [h0,empty]
def wthL (uid:Int) (l:List Ltr) (a:Ltr):List Ltr:=if a.1=uid then l else [a]
def stp88 (uid:Int) (l:List Ltr) (a:Ltr) (b:Bool×List Ltr):(Bool×List Ltr)⊕((Unit×Unit×Bool×Unit)×((Unit×Unit×Unit×Unit×Unit)×((List UInt8)×Int×Int×Unit×Unit)×List Ltr×List Ltr×Unit)) :=
 .inl (b.1||decide (a.1=uid),b.2++wthL uid l a)
theorem fold88 (uid:Int) (l:List Ltr) (fin):∀ (ls:List Ltr) (b:Bool×List Ltr),foldS (stp88 uid l) fin b ls=fin (b.1||has ls uid,b.2++ls.flatMap (wthL uid l))
 | [],b=>by simp [foldS,has]
 | a::t,b=>by
  simp only [foldS,stp88]
  rw [fold88 uid l fin t]
  simp [has,Bool.or_assoc]
theorem F88_eq (b:Box) (uid:Int) (l:List Ltr) (hl:b.2.2.2.1.length<=32) (h1:l.length<=1) :
  F88 ((b,uid,l,()),())=some (((b.1,b.2.1,b.2.2.1,b.2.2.2.1.flatMap (wthL uid l),()),has b.2.2.2.1 uid,()),()):=by
 obtain ⟨nm,v,n,ls,u⟩:=b
 cases u
 have hF:=FUEL_big
 change ls.length<=32 at hl
 have h:L88_0 ((uid,l,(),(),(),false,(0:Int),()),((nm,v,n,ls,()),((),(),(),(),()),(nm,v,n,(),()),[],[],()))=some (foldS (stp88 uid l) (λb=>(((),(),b.1,()),(((),(),(),(),()),(nm,v,n,(),()),[],b.2,()))) (false,[]) ls):=by
  refine walk_listI (f:=B88_0) (λ(b:Bool×List Ltr) i=>((uid,l,(),(),(),b.1,(i:Int),()),((nm,v,n,ls,()),((),(),(),(),()),(nm,v,n,(),()),[],b.2,()))) ls (stp88 uid l) _ (λb i=>b.2.length<=i) (b:=(false,[]))
   (λb i a hI hi ha=>.inl ⟨_,rfl,?_,?_⟩) (λb _=>?_) (by omega) (Nat.le_refl _)
  ·simp only [List.length_append,wthL]
   split
   ·omega
   ·simp only [List.length_cons,List.length_nil];omega
  ·have hb1:bytesOK (b.2.length+l.length) 40=true:=bytes_ok (by omega)
   have hb2:bytesOK (b.2.length+1) 40=true:=bytes_ok (by omega)
   simp only [B88_0,nat_lt,nat_nn,hi,dTr,Bool.and_true,cTt,oBs,nCt,ha,List.length_cons,List.length_nil,Nat.zero_add,hb1,hb2,wthL]
   by_cases hc:a.1=uid
   ·simp only [hc,dTr,cTt,oBs,Bool.or_true,↓reduceIte,w64_nat (show i<9223372036854775807 by omega)]
   ·simp only [hc,decide_false,cFf,oBs,Bool.or_false,↓reduceIte,w64_nat (show i<9223372036854775807 by omega)]
  ·simp only [B88_0,Int.lt_irrefl,decide_false,cFf]
 rw [fold88] at h
 simp only [F88,h,oBs,Bool.false_or,List.nil_append]
theorem flat_filter (uid:Int):∀ (ls:List Ltr),ls.flatMap (wthL uid [])=ls.filter (keep uid)
 | []=>rfl
 | a::t=>by
  rw [List.flatMap_cons,flat_filter uid t,List.filter_cons]
  by_cases h:a.1=uid <;> simp [wthL,keep,h]
theorem F68_eq (b:Box) (uid:Int):F68 ((b,uid,()),())=some (cut b uid,()):=by
 have e34:=F34c_eq b
 have e88:=F88_eq b uid []
 have ez:=check_zero (b:=b)
 obtain ⟨nm,v,n,ls,u⟩:=b
 cases u
 unfold cut
 simp only [F68,e34,oBs]
 generalize hc:check (nm,v,n,ls,())=c at *
 by_cases h0:c=0
 ·have R:=ez.mp h0
  simp only [h0,ne_eq,not_true_eq_false,↓reduceIte,dTr,Bool.not_true,cFf,e88 R.few (Nat.zero_le _),oBs,flat_filter]
  cases hh:has ls uid
  ·simp [empty]
  ·simp
 ·simp [h0,empty]
theorem bits_all:((List.range 32).all λx=>(List.range 32).all λy=>decide (bits 0 (UInt8.ofNat x) (UInt8.ofNat y)=lay 0 (UInt8.ofNat x) (UInt8.ofNat y))&&decide (bits 1 (UInt8.ofNat x) (UInt8.ofNat y)=lay 1 (UInt8.ofNat x) (UInt8.ofNat y))&&decide (bits 2 (UInt8.ofNat x) (UInt8.ofNat y)=lay 2 (UInt8.ofNat x) (UInt8.ofNat y)))=true:=by kernel_rfl
theorem bits_eq {how:Int} {was f:UInt8} (h1:0<=how) (h2:how<=2) (hw:was.toNat<32) (hf:f.toNat<32):bits how was f=lay how was f:=by
 have h:=List.all_eq_true.mp (List.all_eq_true.mp bits_all was.toNat (List.mem_range.mpr hw)) f.toNat (List.mem_range.mpr hf)
 rw [UInt8.ofNat_toNat,UInt8.ofNat_toNat,bAt,bAt,dTe,dTe,dTe] at h
 obtain rfl | rfl | rfl:how=0\/how=1\/how=2:=by omega
 ·exact h.1.1
 ·exact h.1.2
 ·exact h.2
theorem B67_1_eq (b:Box) (uid how:Int) (f is bit:UInt8) (l:Ltr) (ks:List Ltr) (hb:bit.toNat<32) (h0:bit≠0) :
  B67_1 ((uid,how,f,(),(),(),is,bit,()),(b,((),(),(),(),()),l,ks,()))=some (.inl ((uid,how,f,(),(),(),stpB how l.2.1 f bit is,bit*2,()),(b,((),(),(),(),()),l,ks,()))):=by
 have h2:decide ((2:UInt8)≠0)=true:=rfl
 have hb':decide (bit.toNat<UInt8.toNat 32)=true:=dTt hb
 have h0':decide (bit≠0)=true:=dTt h0
 simp only [B67_1,hb',h0',h2,cTt,oBs,stpB]
 generalize hq:(decide (how=0)&&decide (f/bit % 2=1)||decide (how=1)&&(decide (l.2.1/bit % 2=1)||decide (f/bit % 2=1))||decide (how=2)&&decide (l.2.1/bit % 2=1)&&!decide (f/bit % 2=1))=q
 cases q
 ·simp only [cFf,oBs,Bool.false_eq_true,↓reduceIte]
 ·simp only [cTt,oBs,↓reduceIte]
theorem iter_more {σ τ:Type} {f:σ->Option (σ⊕τ)} {p q:σ} {n:Nat} (h:f p=some (.inl q)):iter f (n+1) p=iter f n q:=by
 simp only [iter,h]
theorem L67_1_eq (b:Box) (uid how:Int) (f:UInt8) (l:Ltr) (ks:List Ltr) :
  L67_1 ((uid,how,f,(),(),(),0,1,()),(b,((),(),(),(),()),l,ks,()))=some ((uid,(),(),(),bits how l.2.1 f,()),(b,((),(),(),(),()),l,ks,())):=by
 change iter B67_1 (9223372036854775802+1+1+1+1+1+1) _=_
 rw [iter_more (B67_1_eq b uid how f _ 1 l ks (by decide) (by decide)),iter_more (B67_1_eq b uid how f _ (1*2) l ks (by decide) (by decide)),iter_more (B67_1_eq b uid how f _ (1*2*2) l ks (by decide) (by decide)),
  iter_more (B67_1_eq b uid how f _ (1*2*2*2) l ks (by decide) (by decide)),iter_more (B67_1_eq b uid how f _ (1*2*2*2*2) l ks (by decide) (by decide))]
 have e:decide (UInt8.toNat (1*2*2*2*2*2)<UInt8.toNat 32)=false:=by decide
 simp only [iter,B67_1,e,cFf]
 rfl
abbrev R67:Type:=((Unit×Unit)×((Unit×Unit×Unit×Unit×Unit)×List Ltr×Unit))⊕((Unit×Unit×Unit)×((List UInt8)×Int×Int×List Ltr×Unit)×Unit)
def stp67 (nm:List UInt8) (v n:Int) (ls:List Ltr) (uid how:Int) (f:UInt8) (a:Ltr) (_:Unit):Unit⊕R67 :=
 if a.1=uid then .inr (.inr (((),(),()),((nm,v,n,ls.flatMap (wthL uid [(a.1,bits how a.2.1 f,a.2.2.1,())]),()),()))) else .inl ()
theorem L67_0_eq (nm:List UInt8) (v n:Int) (ls:List Ltr) (uid how:Int) (f:UInt8) (hl:ls.length<=32) :
  L67_0 ((uid,how,f,(),(),(0:Int),()),((nm,v,n,ls,()),((),(),(),(),()),[],()))=some (foldS (stp67 nm v n ls uid how f) (λ_=>.inl (((),()),(((),(),(),(),()),[],()))) () ls):=by
 have hF:=FUEL_big
 refine walk_list (f:=B67_0) (λ(_:Unit) i=>((uid,how,f,(),(),(i:Int),()),((nm,v,n,ls,()),((),(),(),(),()),[],()))) ls (stp67 nm v n ls uid how f) _ (λb i a hi ha=>?_) (λb=>?_) (by omega)
 ·have e88:=F88_eq (nm,v,n,ls,()) uid [(a.1,bits how a.2.1 f,a.2.2.1,())] hl (by simp)
  have e67:=L67_1_eq (nm,v,n,ls,()) uid how f (a.1,a.2.1,a.2.2.1,()) []
  simp only at e88 e67
  simp only [B67_0,nat_lt,nat_nn,hi,dTr,Bool.and_true,cTt,oBs,nCt,ha,stp67]
  by_cases hc:a.1=uid
  ·simp only [hc,dTr,Bool.not_true,cFf,↓reduceIte]
   rw [hc] at e67 e88
   rw [e67]
   simp only [oBs]
   rw [e88]
   simp only [oBs]
  ·simp only [hc,decide_false,Bool.not_false,cTt,↓reduceIte,w64_nat (show i<9223372036854775807 by omega)]
 ·simp only [B67_0,Int.lt_irrefl,decide_false,cFf]
theorem flat_map {ls:List Ltr} (h:ls.Pairwise (λa b=>a.1<b.1)) {uid:Int} {a:Ltr} (ha:a∈ls) (he:a.1=uid) (g:Ltr->Ltr) :
  ls.flatMap (wthL uid [g a])=ls.map λx=>if x.1=uid then g x else x:=by
 have:∀ t:List Ltr,(∀ x∈t,x∈ls)->t.flatMap (wthL uid [g a])=t.map λx=>if x.1=uid then g x else x:=by
  intro t
  induction t with
  | nil=>intro _;rfl
  | cons x t ih =>
   intro hx
   rw [List.flatMap_cons,ih (λy hy=>hx y (List.mem_cons_of_mem _ hy)),List.map_cons]
   by_cases hq:x.1=uid
   ·obtain ⟨i,hi,hi2⟩:=List.getElem_of_mem ha
    obtain ⟨j,hj,hj2⟩:=List.getElem_of_mem (hx x (List.mem_cons_self ..))
    have:i=j:=rise_inj h hi hj (by rw [hi2,hj2,he,hq])
    subst this
    obtain rfl:a=x:=by rw [<- hi2,<- hj2]
    simp [wthL,hq]
   ·simp [wthL,hq]
 exact this ls λ_ h=>h
theorem fold67 (nm:List UInt8) (v n:Int) (ls:List Ltr) (uid how:Int) (f:UInt8) (z:R67) (hr:ls.Pairwise (λa b=>a.1<b.1)) (h32:∀ l∈ls,l.2.1.toNat<32) (h1:0<=how) (h2:how<=2) (hf:f.toNat<32) :
  ∀ t:List Ltr,(∀ x∈t,x∈ls)->foldS (stp67 nm v n ls uid how f) (λ_=>z) () t=if has t uid then .inr (((),(),()),((nm,v,n,ls.map (relay uid how f),()),())) else z
 | [],_=>rfl
 | a::t,hx=>by
  by_cases hc:a.1=uid
  ·have hm:=hx a (List.mem_cons_self ..)
   have e:=flat_map hr hm hc (λa=>(a.1,lay how a.2.1 f,a.2.2.1,()))
   have hb:=bits_eq h1 h2 (h32 a hm) hf
   simp only [foldS,stp67,hc,↓reduceIte,has,List.any_cons,dTr,Bool.true_or,hb]
   rw [hc] at e
   rw [e]
   have hm:(λa:Ltr=>if a.1=uid then (a.1,lay how a.2.1 f,a.2.2.1,()) else a)=relay uid how f:=rfl
   rw [hm]
  ·have ih:=fold67 nm v n ls uid how f z hr h32 h1 h2 hf t (λy hy=>hx y (List.mem_cons_of_mem _ hy))
   simp only [foldS,stp67,hc,↓reduceIte,has,List.any_cons,decide_false,Bool.false_or]
   exact ih
theorem F67_eq (b:Box) (uid how:Int) (f:UInt8):F67 ((b,uid,how,f,()),())=some (flag b uid how f,()):=by
 have e34:=F34c_eq b
 have ez:=check_zero (b:=b)
 obtain ⟨nm,v,n,ls,u⟩:=b
 cases u
 unfold flag
 simp only [F67,e34,oBs]
 generalize hc:check (nm,v,n,ls,())=c at *
 by_cases h0:c=0
 ·have R:=ez.mp h0
  simp only [h0,ne_eq,not_true_eq_false,↓reduceIte,dTr,Bool.not_true,cFf]
  by_cases hb:how<0\/2<how\/32<=f.toNat
  ·have e:((!decide (how=0))&&(!decide (how=1))&&(!decide (how=2))||decide (UInt8.toNat 31<f.toNat))=true:=by
    simp only [Bool.or_eq_true,bAt,Bool.not_eq_true',decide_eq_false_iff_not,dTe,show UInt8.toNat 31=31 from rfl];omega
   simp only [e,cTt,hb,↓reduceIte,empty]
  ·have e:((!decide (how=0))&&(!decide (how=1))&&(!decide (how=2))||decide (UInt8.toNat 31<f.toNat))=false:=by
    obtain rfl | rfl | rfl:how=0\/how=1\/how=2:=by omega
    all_goals
     simp only [Bool.or_eq_false_iff,decide_eq_false_iff_not,show UInt8.toNat 31=31 from rfl]
     exact ⟨rfl,by omega⟩
   have e67:=fold67 nm v n ls uid how f (.inl (((),()),(((),(),(),(),()),[],()))) R.rise (λl hl=>(R.each l hl).2.2.1) (by omega) (by omega) (by omega) ls (λ_ h=>h)
   simp only [e,cFf,hb,↓reduceIte,L67_0_eq nm v n ls uid how f R.few,e67,oBs]
   cases hh:has ls uid
   ·simp [empty]
   ·simp
 ·simp [h0,empty]
theorem loop_sim {σ τ σ' τ':Type} {f:σ->Option (σ⊕τ)} {g:σ'->Option (σ'⊕τ')} (R:σ->σ'->Prop) (T:τ->τ'->Prop)
  (h:∀ p q,R p q->(f p=none/\g q=none)\/(∃ p' q',f p=some (.inl p')/\g q=some (.inl q')/\R p' q')\/(∃ r s,f p=some (.inr r)/\g q=some (.inr s)/\T r s)) :
  ∀ p q,R p q->(loopOf f p=none/\loopOf g q=none)\/∃ r s,loopOf f p=some r/\loopOf g q=some s/\T r s:=by
 have key:∀ n p q,R p q->(iter f n p=none/\iter g n q=none)\/∃ r s,iter f n p=some r/\iter g n q=some s/\T r s:=by
  intro n
  induction n with
  | zero=>intro p q _;left;exact ⟨by simp [iter],by simp [iter]⟩
  | succ n ih =>
   intro p q hR
   rcases h p q hR with ⟨h1,h2⟩ | ⟨p',q',h1,h2,h3⟩ | ⟨r,s,h1,h2,h3⟩
   ·left;simp [iter,h1,h2]
   ·simp only [iter,h1,h2]
    exact ih p' q' h3
   ·right;exact ⟨r,s,by simp [iter,h1],by simp [iter,h2],h3⟩
 exact λp q hR=>key FUEL p q hR
theorem L69_all (s:List UInt8):∀ (k i:Nat),s.length-i<k->(s.drop i).all okc=true->iter B69_0 k ((s,(),()),((s,i),()))=some (.inl ((s,()),()))
 | 0,_,h,_=>absurd h (Nat.not_lt_zero _)
 | k+1,i,hk,ha=>by
  rw [iter]
  by_cases hi:i<s.length
  ·have hd:Utf8.decode ⟨s.toArray⟩ i=Lib.decodeL (s.drop i):=dec_at hi
   have hb:B69_0 ((s,(),()),((s,i),()))=cond (!okn ((Lib.decodeL (s.drop i)).1:Int)) (some (Sum.inr (Sum.inr (((),()),())))) (some (Sum.inl ((s,(),()),((s,(i+(Lib.decodeL (s.drop i)).2)),())))):=by
    rw [<- hd]
    simp only [B69_0,hi,dTr,cTt]
    rfl
   rw [hb]
   have e:=drop_all hi
   rw [e,List.all_cons,bAt] at ha
   obtain ⟨l1,l2⟩:=dec_low (s.drop i)
   have hlow:((s.drop i).getD 0 0).toNat<128:=by
    rcases Nat.lt_or_ge ((s.drop i).getD 0 0).toNat 128 with h' | h'
    ·exact h'
    ·exfalso
     have:=okn_big h'
     rw [<- okc_eq,e] at this
     simp only [List.getD_cons_zero] at this
     rw [this] at ha
     cases ha.1
   have hn:okn (((s.drop i).getD 0 0).toNat:Int)=true:=by
    rw [<- okc_eq,e]
    exact ha.1
   rw [l1 hlow]
   simp only [hn,Bool.not_true,cFf]
   exact L69_all s k (i+1) (by omega) ha.2
  ·simp only [B69_0,hi,decide_false,cFf]
theorem F69_eq (s:Tx) (hs:s.length<=maxLen):F69 ((s,()),())=some (rightU s,()):=by
 obtain ⟨b,hb⟩:=F69_some s hs
 cases b with
 | true=>rw [hb,F69_good hb hs]
 | false =>
  cases hr:rightU s with
  | false=>exact hb
  | true =>
   have hF:maxLen<FUEL:=by unfold maxLen FUEL;omega
   unfold rightU at hr
   simp only [bAt,dTe] at hr
   have hL:L69_0 ((s,(),()),((s,0),()))=some (.inl ((s,()),())):=L69_all s FUEL 0 (by omega) (by rw [List.drop_zero];exact hr.1.1)
   have h1:s≠[]:=by
    intro h
    rw [h] at hr
    simp at hr
   have h2:((s.length:Nat):Int)<=24:=by omega
   simp only [F69,hL,oBs,dFf h1,dTt h2,Bool.not_false,bAs]
abbrev St44:Type:=(Unit×Int×Int×Bool×List Bx×Int×Int×Unit)×(Usr×Unit)
abbrev St13:Type:=(Unit×Bool×Int×Int×Int×Unit)×(Usr×Unit)
theorem L44_L13 (un:Tx) (uv:Int) (ls:List Bx) (hl:ls.length<=6) (hn:∀ b∈ls,b.1.length<=1100000) (p:St44) (q:St13)
  (h:∃ (i:Nat) (a b:Int) (o:Bool),i<=ls.length/\p=(((),a,b,o,ls,((ls.length:Nat):Int),(i:Int),()),((un,uv,ls,()),()))/\q=(((),o,a,b,(i:Int),()),((un,uv,ls,()),()))) :
  (L44_0 p=none/\L13_0 q=none)\/∃ (r:R44) (s:R13),L44_0 p=some r/\L13_0 q=some s /\
   ((∃ (a b:Int) (o:Bool),r=.inl ((a,b,o,()),())/\s=.inl ((o,a,b,()),()))\/∃ e:Int,r=.inr ((e,()),())/\s=.inr ((e,()),())):=by
 refine loop_sim (f:=B44_0) (g:=B13_0) (λp q=>∃ (i:Nat) (a b:Int) (o:Bool),i<=ls.length/\p=(((),a,b,o,ls,((ls.length:Nat):Int),(i:Int),()),((un,uv,ls,()),()))/\q=(((),o,a,b,(i:Int),()),((un,uv,ls,()),())))
  (λ(r:R44) (s:R13)=>((∃ (a b:Int) (o:Bool),r=.inl ((a,b,o,()),())/\s=.inl ((o,a,b,()),()))\/∃ e:Int,r=.inr ((e,()),())/\s=.inr ((e,()),()))) ?_ p q h
 rintro p q ⟨i,a,b,o,hi,rfl,rfl⟩
 rcases Nat.lt_or_ge i ls.length with h | h
 ·have d0:decide ((i:Int)<((ls.length:Nat):Int))=true:=dTt (by omega)
  have d1:decide ((0:Int)<=(i:Int))=true:=dTt (by omega)
  have w1:w64 ((i:Int)+1)=((i+1:Nat):Int):=by rw [w64_id (by omega) (by omega)];rfl
  obtain ⟨⟨bn,bv,bx,bl,⟨⟩⟩,hb⟩:∃ b,ls.getD i nob=b:=⟨_,rfl⟩
  have hgd:ls.getD i (([]:List UInt8),((0:Int),((0:Int),(([]:(List Ltr)),()))))=(bn,bv,bx,bl,()):=hb
  have hmem:(bn,bv,bx,bl,())∈ls:=by
   rw [<- hb,List.getD_eq_getElem?_getD,List.getElem?_eq_getElem h]
   exact List.getElem_mem h
  have e70:=F70_eq bn
  have e33:=F33_eq bn (hn _ hmem)
  have e71:=F71_eq (bn,bv,bx,bl,())
  have e34:=F34c_eq (bn,bv,bx,bl,())
  have g:((decide ((0:Int)<=w64 ((i:Int)-(1:Int)))&&decide (w64 ((i:Int)-(1:Int))<((ls.length:Nat):Int)))||(!(decide ((0:Int)<(i:Int))&&(!(!(rightB bn))))))=true:=by
   cases i with
   | zero=>simp
   | succ j =>
    have w2:w64 (((j+1:Nat):Int)-1)=(j:Int):=by rw [w64_id (by omega) (by omega)];omega
    rw [w2,dTt (show (0:Int)<=(j:Int) by omega),dTt (show (j:Int)<((ls.length:Nat):Int) by omega)]
    rfl
  obtain ⟨bad,hbad⟩:∃ x,((!(rightB bn))||(decide ((0:Int)<(i:Int))&&(Op.bytesLess bn (ls.getD (Int.toNat (w64 ((i:Int)-(1:Int)))) (([]:List UInt8),((0:Int),((0:Int),(([]:(List Ltr)),()))))).1||decide (bn=(ls.getD (Int.toNat (w64 ((i:Int)-(1:Int)))) (([]:List UInt8),((0:Int),((0:Int),(([]:(List Ltr)),()))))).1))))=x:=⟨_,rfl⟩
  cases bad with
  | true =>
   right;right
   refine ⟨.inr ((4,()),()),.inr ((4,()),()),?_,?_,.inr ⟨4,rfl,rfl⟩⟩
   ·simp only [B44_0,d0,d1,bAs,cTt,nCt,hgd,oBs,e70,g,hbad]
   ·simp only [B13_0,d0,d1,bAs,cTt,nCt,hgd,oBs,e33,g,hbad]
  | false =>
   by_cases hc:check (bn,bv,bx,bl,())=0
   ·have R:=check_zero.1 hc
    have e72:=F72_eq (bn,bv,bx,bl,()) (Nat.le_trans R.few (by decide))
    have e35:=F35_eq (bn,bv,bx,bl,()) R.few
    by_cases hv:uv<bv
    ·right;right
     refine ⟨.inr ((2,()),()),.inr ((2,()),()),?_,?_,.inr ⟨2,rfl,rfl⟩⟩
     ·simp only [B44_0,d0,d1,bAs,cTt,nCt,hgd,oBs,e70,g,hbad,cFf,e71,hc,dTr,Bool.not_true,dTt hv]
     ·simp only [B13_0,d0,d1,bAs,cTt,nCt,hgd,oBs,e33,g,hbad,cFf,e34,hc,dTr,Bool.not_true,dTt hv]
    ·right;left
     refine ⟨(((),w64 (a+(bl.length:Int)),w64 (b+size bl),(o||decide (bn=inbx)),ls,((ls.length:Nat):Int),((i+1:Nat):Int),()),((un,uv,ls,()),())),
      (((),(o||decide (bn=inbx)),w64 (a+(bl.length:Int)),w64 (b+size bl),((i+1:Nat):Int),()),((un,uv,ls,()),())),?_,?_,i+1,_,_,_,h,rfl,rfl⟩
     ·simp only [B44_0,d0,d1,bAs,cTt,nCt,hgd,oBs,e70,g,hbad,cFf,e71,hc,dTr,Bool.not_true,dFf hv,e72,w1]
      rfl
     ·simp only [B13_0,d0,d1,bAs,cTt,nCt,hgd,oBs,e33,g,hbad,cFf,e34,hc,dTr,Bool.not_true,dFf hv,e35,w1]
      rfl
   ·right;right
    refine ⟨.inr ((check (bn,bv,bx,bl,()),()),()),.inr ((check (bn,bv,bx,bl,()),()),()),?_,?_,.inr ⟨_,rfl,rfl⟩⟩
    ·simp only [B44_0,d0,d1,bAs,cTt,nCt,hgd,oBs,e70,g,hbad,cFf,e71,dFf hc,Bool.not_false]
    ·simp only [B13_0,d0,d1,bAs,cTt,nCt,hgd,oBs,e33,g,hbad,cFf,e34,dFf hc,Bool.not_false]
 ·have hi':i=ls.length:=by omega
  subst hi'
  right;right
  refine ⟨.inl ((a,b,o,()),()),.inl ((o,a,b,()),()),?_,?_,.inl ⟨a,b,o,rfl,rfl⟩⟩
  ·simp only [B44_0,Int.lt_irrefl,decide_false,cFf]
  ·simp only [B13_0,Int.lt_irrefl,decide_false,cFf]
theorem F13_F44 (u:Usr) (hu:u.1.length<=maxLen) (hn:∀ b∈u.2.2.1,b.1.length<=1100000):F13 ((u,()),())=F44 ((u,()),()):=by
 obtain ⟨un,uv,ls,⟨⟩⟩:=u
 simp only [F13,F44,F32_eq un hu,F69_eq un hu,oBs]
 cases rightU un with
 | false=>rfl
 | true =>
  simp only [Bool.not_true,cFf]
  cases (decide (uv<1)||decide (4294967295<uv)) with
  | true=>rfl
  | false =>
   simp only [cFf]
   have e:decide (((ls.length:Nat):Int)<1)=decide (((ls.length:Nat):Int)=0):=by rw [decide_eq_decide];omega
   rw [e]
   cases h2:(decide (((ls.length:Nat):Int)=0)||decide ((6:Int)<((ls.length:Nat):Int))) with
   | true=>rfl
   | false =>
    simp only [cFf]
    rw [Bool.or_eq_false_iff,decide_eq_false_iff_not,decide_eq_false_iff_not] at h2
    rcases L44_L13 un uv ls (by omega) hn (((),(0:Int),(0:Int),false,ls,((ls.length:Nat):Int),(0:Int),()),((un,uv,ls,()),())) (((),false,(0:Int),(0:Int),(0:Int),()),((un,uv,ls,()),()))
     ⟨0,0,0,false,Nat.zero_le _,rfl,rfl⟩ with ⟨h3,h4⟩ | ⟨r,s,h3,h4,⟨a,b,o,rfl,rfl⟩ | ⟨e,rfl,rfl⟩⟩
    ·rw [h3,h4];rfl
    ·rw [h3,h4];rfl
    ·rw [h3,h4];rfl
def numG (v:Nat) (c:UInt8):Nat:=v*256+c.toNat
def numv (bs:List UInt8):Nat:=bs.foldl numG 0
theorem foldS_inl {α β τ:Type} (g:β->α->β) (fin:β->τ):∀ (l:List α) (b:β),foldS (λa b=>(.inl (g b a):β⊕τ)) fin b l=fin (l.foldl g b)
 | [],_=>rfl
 | a::t,b=>foldS_inl g fin t (g b a)
theorem numG_lt (v:Nat) (c:UInt8) (i:Nat) (hv:v<256^i):numG v c<256^(i+1):=by
 have hc:=c.toNat_lt
 unfold numG
 rw [Nat.pow_succ]
 have:(v+1)*256<=256^i*256:=Nat.mul_le_mul_right _ hv
 omega
theorem pow4 {i:Nat} (h:i<=3):(256:Nat)^i<=16777216:=Nat.pow_le_pow_right (n:=256) (by omega) h
theorem foldl_lt:∀ (bs:List UInt8) (v i:Nat),v<256^i->bs.foldl numG v<256^(i+bs.length)
 | [],_,_,h=>h
 | c::t,v,i,h=>by
  have:=foldl_lt t (numG v c) (i+1) (numG_lt v c i h)
  rw [List.foldl_cons,List.length_cons,show i+(t.length+1)=i+1+t.length by omega]
  exact this
theorem numv_lt (bs:List UInt8):numv bs<256^bs.length:=by
 have:=foldl_lt bs 0 0 (by simp)
 rwa [Nat.zero_add] at this
theorem L98_eq (l bs:List UInt8) (hb:bs.length<=4):L98_0 (((),(0:Int),bs,((bs.length:Nat):Int),(0:Int),()),((l,()),()))=some (((),((numv bs:Nat):Int),()),((l,()),())):=by
 have hF:=FUEL_big
 unfold L98_0
 refine (walk_listI (f:=B98_0) (λ(v:Nat) i=>(((),(v:Int),bs,((bs.length:Nat):Int),(i:Int),()),((l,()),()))) bs (λa v=>.inl (numG v a)) (λv=>(((),(v:Int),()),((l,()),()))) (λv i=>v<256^i)
  (λv i a hv hi ha=>?_) (λv _=>?_) (by omega) (b:=0) (by simp)).trans ?_
 ·refine .inl ⟨_,rfl,numG_lt v a i hv,?_⟩
  have hp:=pow4 (i:=i) (by omega)
  have d0:decide ((i:Int)<((bs.length:Nat):Int))=true:=dTt (by omega)
  have d1:decide ((0:Int)<=(i:Int))=true:=dTt (by omega)
  have w1:w64 ((i:Int)+1)=((i+1:Nat):Int):=by rw [w64_id (by omega) (by omega)];rfl
  have w2:w64 ((v:Int)*2^8)=((v*256:Nat):Int):=by rw [w64_id (by omega) (by omega)];omega
  have hc:=a.toNat_lt
  have o:bitsOf .or .i64 ((v*256:Nat):Int) ((a.toNat:Nat):Int)=((numG v a:Nat):Int):=by
   rw [or64 _ _ (by omega) (by omega)]
   have e:v*256 ||| a.toNat=v*256+a.toNat:=by
    have:=Nat.two_pow_add_eq_or_of_lt (i:=8) hc v
    rw [Nat.mul_comm] at this
    exact this.symm
   rw [e];rfl
  simp only [B98_0,d0,d1,bAs,cTt,nCt,ha,w1,w2,o]
 ·simp only [B98_0,Int.lt_irrefl,decide_false,cFf]
 ·rw [foldS_inl numG]
  rfl
theorem L87_eq (l bs:List UInt8) (off:Bool) (hb:bs.length<=4):L87_0 (((),(),(0:Int),(0:Int),()),((l,off,()),bs,()))=some (((),((numv bs:Nat):Int),()),((l,off,()),())):=by
 have hF:=FUEL_big
 unfold L87_0
 refine (walk_listI (f:=B87_0) (λ(v:Nat) i=>(((),(),(v:Int),(i:Int),()),((l,off,()),bs,()))) bs (λa v=>.inl (numG v a)) (λv=>(((),(v:Int),()),((l,off,()),()))) (λv i=>v<256^i)
  (λv i a hv hi ha=>?_) (λv _=>?_) (by omega) (b:=0) (by simp)).trans ?_
 ·refine .inl ⟨_,rfl,numG_lt v a i hv,?_⟩
  have hp:=pow4 (i:=i) (by omega)
  have hc:=a.toNat_lt
  have d0:decide ((i:Int)<((bs.length:Nat):Int))=true:=dTt (by omega)
  have d1:decide ((0:Int)<=(i:Int))=true:=dTt (by omega)
  have w1:w64 ((i:Int)+1)=((i+1:Nat):Int):=by rw [w64_id (by omega) (by omega)];rfl
  have w2:w64 ((256:Int)*(v:Int))=((v*256:Nat):Int):=by rw [w64_id (by omega) (by omega)];omega
  have w3:w64 (((v*256:Nat):Int)+((a.toNat:Nat):Int))=((numG v a:Nat):Int):=by
   rw [w64_id (by omega) (by omega)];unfold numG;omega
  simp only [B87_0,d0,d1,bAs,cTt,oBs,nCt,ha,w1,w2,w3]
 ·simp only [B87_0,Int.lt_irrefl,decide_false,cFf]
 ·rw [foldS_inl numG]
  rfl
def tak (n:Nat) (l:List UInt8):Option (List UInt8×List UInt8):=if l.length<n then none else some (l.take n,l.drop n)
def nm1 (n:Nat) (l:List UInt8):Option (Nat×List UInt8):=if l.length<n then none else some (numv (l.take n),l.drop n)
def txt1 (w:Nat) (l:List UInt8):Option (List UInt8×List UInt8):=(nm1 w l).bind λq=>tak q.1 q.2
def ltr1 (l:List UInt8):Option (Ltr×List UInt8):=(nm1 4 l).bind λu=>(nm1 1 u.2).bind λf=>(txt1 2 f.2).bind λb=>some (((u.1:Int),u8of (f.1:Int),b.1,()),b.2)
def ltrs:Nat->List UInt8->Option (List Ltr×List UInt8)
 | 0,l=>some ([],l)
 | n+1,l=>(ltr1 l).bind λq=>(ltrs n q.2).bind λr=>some (q.1::r.1,r.2)
def box1 (l:List UInt8):Option (Bx×List UInt8):=(txt1 1 l).bind λn=>(nm1 4 n.2).bind λv=>(nm1 4 v.2).bind λx=>(nm1 1 x.2).bind λc=>(ltrs c.1 c.2).bind λq=>some ((n.1,(v.1:Int),(x.1:Int),q.1,()),q.2)
def boxs1:Nat->List UInt8->Option (List Bx×List UInt8)
 | 0,l=>some ([],l)
 | n+1,l=>(box1 l).bind λq=>(boxs1 n q.2).bind λr=>some (q.1::r.1,r.2)
def usr1 (l:List UInt8):Option (Usr×List UInt8):=(txt1 1 l).bind λn=>(nm1 4 n.2).bind λv=>(nm1 1 v.2).bind λc=>(boxs1 c.1 c.2).bind λq=>some ((n.1,(v.1:Int),q.1,()),q.2)
theorem nm1_lt {n:Nat} {l:List UInt8} {q:Nat×List UInt8} (h:nm1 n l=some q):q.1<256^n:=by
 unfold nm1 at h
 split at h
 ·cases h
 ·cases h
  have:=numv_lt (l.take n)
  rwa [List.length_take,Nat.min_eq_left (by omega)] at this
theorem F98_some {n:Nat} {l:List UInt8} {q:Nat×List UInt8} (hn:n<=4) (h:nm1 n l=some q):F98 (((),(n:Int),()),((l,()),()))=some (.inl (q.1:Int),((q.2,()),())):=by
 have e:=F132_eq l n
 unfold nm1 at h
 split at h
 ·cases h
 ·rename_i h'
  cases h
  rw [if_neg h'] at e
  have ht:(l.take n).length=n:=by rw [List.length_take];omega
  simp only [F98,e,oBs,L98_eq (l.drop n) (l.take n) (by omega)]
theorem F98_none {n:Nat} {l:List UInt8} (h:nm1 n l=none):∃ l',F98 (((),(n:Int),()),((l,()),()))=some (.inr (3,()),((l',()),())):=by
 have e:=F132_eq l n
 unfold nm1 at h
 split at h
 ·rename_i h'
  rw [if_pos h'] at e
  exact ⟨l,by simp only [F98,e,oBs]⟩
 ·cases h
theorem F97_some {l:List UInt8} {q:List UInt8×List UInt8} (h:txt1 1 l=some q):F97 (((),()),((l,()),()))=some (.inl q.1,((q.2,()),())):=by
 unfold txt1 at h
 cases h1:nm1 1 l with
 | none=>rw [h1] at h;cases h
 | some r =>
  rw [h1,oBs] at h
  have e1:=F98_some (by omega) h1
  rw [show ((1:Nat):Int)=1 from rfl] at e1
  have e2:=F132_eq r.2 r.1
  unfold tak at h
  split at h
  ·cases h
  ·rename_i h'
   cases h
   rw [if_neg h'] at e2
   simp only [F97,e1,oBs,e2]
theorem F97_none {l:List UInt8} (h:txt1 1 l=none):∃ l',F97 (((),()),((l,()),()))=some (.inr (3,()),((l',()),())):=by
 unfold txt1 at h
 cases h1:nm1 1 l with
 | none =>
  obtain ⟨l',e1⟩:=F98_none h1
  rw [show ((1:Nat):Int)=1 from rfl] at e1
  exact ⟨l',by simp only [F97,e1,oBs]⟩
 | some r =>
  rw [h1,oBs] at h
  have e1:=F98_some (by omega) h1
  rw [show ((1:Nat):Int)=1 from rfl] at e1
  have e2:=F132_eq r.2 r.1
  unfold tak at h
  split at h
  ·rename_i h'
   rw [if_pos h'] at e2
   exact ⟨r.2,by simp only [F97,e1,oBs,e2]⟩
  ·cases h
theorem F99_some {l:List UInt8} {q:List UInt8×List UInt8} (h:txt1 2 l=some q):F99 (((),()),((l,()),()))=some (.inl q.1,((q.2,()),())):=by
 unfold txt1 at h
 cases h1:nm1 2 l with
 | none=>rw [h1] at h;cases h
 | some r =>
  rw [h1,oBs] at h
  have hr:=nm1_lt h1
  have e1:=F98_some (by omega) h1
  rw [show ((2:Nat):Int)=2 from rfl] at e1
  have e2:=F132_eq r.2 r.1
  unfold tak at h
  split at h
  ·cases h
  ·rename_i h'
   cases h
   rw [if_neg h'] at e2
   have e3:=F53_eq' (r.2.take r.1) (by rw [List.length_take];omega)
   simp only [F99,e1,oBs,e2,e3]
theorem F99_none {l:List UInt8} (h:txt1 2 l=none):∃ l',F99 (((),()),((l,()),()))=some (.inr (3,()),((l',()),())):=by
 unfold txt1 at h
 cases h1:nm1 2 l with
 | none =>
  obtain ⟨l',e1⟩:=F98_none h1
  rw [show ((2:Nat):Int)=2 from rfl] at e1
  exact ⟨l',by simp only [F99,e1,oBs]⟩
 | some r =>
  rw [h1,oBs] at h
  have e1:=F98_some (by omega) h1
  rw [show ((2:Nat):Int)=2 from rfl] at e1
  have e2:=F132_eq r.2 r.1
  unfold tak at h
  split at h
  ·rename_i h'
   rw [if_pos h'] at e2
   exact ⟨r.2,by simp only [F99,e1,oBs,e2]⟩
  ·cases h
theorem ltrs_split {n i:Nat} {l l':List UInt8} {ls:List Ltr} (hi:i<n) {a:Ltr} {l2:List UInt8} (h1:ltr1 l'=some (a,l2))
  (h:ltrs n l=(ltrs (n-i) l').bind λq=>some (ls++q.1,q.2)):ltrs n l=(ltrs (n-(i+1)) l2).bind λq=>some ((ls++[a])++q.1,q.2):=by
 rw [h,show n-i=(n-(i+1))+1 by omega]
 simp only [ltrs,h1,oBs]
 cases ltrs (n-(i+1)) l2 <;> simp
theorem ltrs_stop {n i:Nat} {l l':List UInt8} {ls:List Ltr} (hi:i<n) (h1:ltr1 l'=none)
  (h:ltrs n l=(ltrs (n-i) l').bind λq=>some (ls++q.1,q.2)):ltrs n l=none:=by
 rw [h,show n-i=(n-(i+1))+1 by omega]
 simp only [ltrs,h1,Option.bind_none]
theorem ltrs_end {n:Nat} {l l':List UInt8} {ls:List Ltr}
  (h:ltrs n l=(ltrs (n-n) l').bind λq=>some (ls++q.1,q.2)):ltrs n l=some (ls,l'):=by
 rw [h,Nat.sub_self]
 simp [ltrs]
theorem boxs_split {n i:Nat} {l l':List UInt8} {ls:List Bx} (hi:i<n) {a:Bx} {l2:List UInt8} (h1:box1 l'=some (a,l2))
  (h:boxs1 n l=(boxs1 (n-i) l').bind λq=>some (ls++q.1,q.2)):boxs1 n l=(boxs1 (n-(i+1)) l2).bind λq=>some ((ls++[a])++q.1,q.2):=by
 rw [h,show n-i=(n-(i+1))+1 by omega]
 simp only [boxs1,h1,oBs]
 cases boxs1 (n-(i+1)) l2 <;> simp
theorem boxs_stop {n i:Nat} {l l':List UInt8} {ls:List Bx} (hi:i<n) (h1:box1 l'=none)
  (h:boxs1 n l=(boxs1 (n-i) l').bind λq=>some (ls++q.1,q.2)):boxs1 n l=none:=by
 rw [h,show n-i=(n-(i+1))+1 by omega]
 simp only [boxs1,h1,Option.bind_none]
theorem boxs_end {n:Nat} {l l':List UInt8} {ls:List Bx}
  (h:boxs1 n l=(boxs1 (n-n) l').bind λq=>some (ls++q.1,q.2)):boxs1 n l=some (ls,l'):=by
 rw [h,Nat.sub_self]
 simp [boxs1]
theorem L96_1_eq (l:List UInt8) (N:NmT) (bxs:List Bx) (B:BnT) (c0 i0:Int) (cnt:Nat) (hc:cnt<=255) :
  ∃ r,L96_1 (((),(),(),c0,i0,(cnt:Int),(0:Int),()),((l,()),N,bxs,B,([]:List Ltr),()))=some r /\
   match r with
   | .inl q=>∃ l' ls',ltrs cnt l=some (ls',l')/\q=(((),(),(),c0,i0,()),((l',()),N,bxs,B,ls',()))
   | .inr q=>ltrs cnt l=none/\∃ l',q=(((3,()),()),((l',()),N,bxs,())):=by
 obtain ⟨nn,nv,⟨⟩,⟨⟩⟩:=N
 obtain ⟨bn,bv,bx,⟨⟩,⟨⟩⟩:=B
 have hF:=FUEL_big
 unfold L96_1
 refine loop_ind (f:=B96_1) (λp=>∃ (i:Nat) (l':List UInt8) (ls:List Ltr),i<=cnt/\ls.length<=i/\p=(((),(),(),c0,i0,(cnt:Int),(i:Int),()),((l',()),(nn,nv,(),()),bxs,(bn,bv,bx,(),()),ls,()))/\ltrs cnt l=(ltrs (cnt-i) l').bind λq=>some (ls++q.1,q.2)) (λp=>cnt-p.1.2.2.2.2.2.2.1.toNat) _ ?_
  ⟨0,l,[],Nat.zero_le _,Nat.le_refl _,rfl,by rw [Nat.sub_zero];cases ltrs cnt l <;> simp⟩ (by simp only;omega)
 rintro p ⟨i,l',ls,hi,hl,rfl,hq⟩
 rcases Nat.lt_or_ge i cnt with h | h
 ·have d0:decide ((i:Int)<(cnt:Int))=true:=dTt (by omega)
  have w1:w64 ((i:Int)+1)=((i+1:Nat):Int):=by rw [w64_id (by omega) (by omega)];rfl
  cases h1:nm1 4 l' with
  | none =>
   obtain ⟨l1,e1⟩:=F98_none h1
   rw [show ((4:Nat):Int)=4 from rfl] at e1
   exact .inr ⟨.inr (((3,()),()),((l1,()),(nn,nv,(),()),bxs,())),by simp only [B96_1,d0,cTt,e1,oBs],ltrs_stop h (by simp [ltr1,h1]) hq,_,rfl⟩
  | some r1 =>
  have e1:=F98_some (by omega) h1
  rw [show ((4:Nat):Int)=4 from rfl] at e1
  cases h2:nm1 1 r1.2 with
  | none =>
   obtain ⟨l1,e2⟩:=F98_none h2
   rw [show ((1:Nat):Int)=1 from rfl] at e2
   exact .inr ⟨.inr (((3,()),()),((l1,()),(nn,nv,(),()),bxs,())),by simp only [B96_1,d0,cTt,e1,oBs,e2],ltrs_stop h (by simp [ltr1,h1,h2]) hq,_,rfl⟩
  | some r2 =>
  have e2:=F98_some (by omega) h2
  rw [show ((1:Nat):Int)=1 from rfl] at e2
  cases h3:txt1 2 r2.2 with
  | none =>
   obtain ⟨l1,e3⟩:=F99_none h3
   exact .inr ⟨.inr (((3,()),()),((l1,()),(nn,nv,(),()),bxs,())),by simp only [B96_1,d0,cTt,e1,oBs,e2,e3],ltrs_stop h (by simp [ltr1,h1,h2,h3]) hq,_,rfl⟩
  | some r3 =>
  have e3:=F99_some h3
  have hb:∀ x:Ltr,bytesOK (ls.length+[x].length) 40=true:=λx=>bytes_ok (by simp only [List.length_singleton];omega)
  refine .inl ⟨_,by simp only [B96_1,d0,cTt,e1,oBs,e2,e3,hb,w1];rfl,⟨i+1,r3.2,_,h,?_,rfl,ltrs_split h (by simp [ltr1,h1,h2,h3]) hq⟩,?_⟩
  ·rw [List.length_append,List.length_singleton];omega
  ·simp only;omega
 ·have hi':i=cnt:=by omega
  subst hi'
  exact .inr ⟨.inl (((),(),(),c0,i0,()),((l',()),(nn,nv,(),()),bxs,(bn,bv,bx,(),()),ls,())),by simp only [B96_1,Int.lt_irrefl,decide_false,cFf],_,_,ltrs_end hq,rfl⟩
theorem L96_0_eq (l:List UInt8) (N:NmT) (cnt:Nat) (hc:cnt<=255) :
  ∃ r,L96_0 (((),(),(cnt:Int),(0:Int),()),((l,()),N,([]:List Bx),()))=some r /\
   match r with
   | .inl q=>∃ l' ls',boxs1 cnt l=some (ls',l')/\q=(((),(),()),((l',()),N,ls',()))
   | .inr q=>boxs1 cnt l=none/\∃ l' ls',q=(((3,()),()),((l',()),N,ls',())):=by
 obtain ⟨nn,nv,⟨⟩,⟨⟩⟩:=N
 have hF:=FUEL_big
 unfold L96_0
 refine loop_ind (f:=B96_0) (λp=>∃ (i:Nat) (l':List UInt8) (ls:List Bx),i<=cnt/\ls.length<=i/\p=(((),(),(cnt:Int),(i:Int),()),((l',()),(nn,nv,(),()),ls,()))/\boxs1 cnt l=(boxs1 (cnt-i) l').bind λq=>some (ls++q.1,q.2)) (λp=>cnt-p.1.2.2.2.1.toNat) _ ?_
  ⟨0,l,[],Nat.zero_le _,Nat.le_refl _,rfl,by rw [Nat.sub_zero];cases boxs1 cnt l <;> simp⟩ (by simp only;omega)
 rintro p ⟨i,l',ls,hi,hl,rfl,hq⟩
 rcases Nat.lt_or_ge i cnt with h | h
 ·have d0:decide ((i:Int)<(cnt:Int))=true:=dTt (by omega)
  have w1:w64 ((i:Int)+1)=((i+1:Nat):Int):=by rw [w64_id (by omega) (by omega)];rfl
  cases h0:txt1 1 l' with
  | none =>
   obtain ⟨l1,e0⟩:=F97_none h0
   exact .inr ⟨.inr (((3,()),()),((l1,()),(nn,nv,(),()),ls,())),by simp only [B96_0,d0,cTt,e0,oBs],boxs_stop h (by simp [box1,h0]) hq,_,_,rfl⟩
  | some r0 =>
  have e0:=F97_some h0
  cases h1:nm1 4 r0.2 with
  | none =>
   obtain ⟨l1,e1⟩:=F98_none h1
   rw [show ((4:Nat):Int)=4 from rfl] at e1
   exact .inr ⟨.inr (((3,()),()),((l1,()),(nn,nv,(),()),ls,())),by simp only [B96_0,d0,cTt,e0,e1,oBs],boxs_stop h (by simp [box1,h0,h1]) hq,_,_,rfl⟩
  | some r1 =>
  have e1:=F98_some (by omega) h1
  rw [show ((4:Nat):Int)=4 from rfl] at e1
  cases h2:nm1 4 r1.2 with
  | none =>
   obtain ⟨l1,e2⟩:=F98_none h2
   rw [show ((4:Nat):Int)=4 from rfl] at e2
   exact .inr ⟨.inr (((3,()),()),((l1,()),(nn,nv,(),()),ls,())),by simp only [B96_0,d0,cTt,e0,e1,oBs,e2],boxs_stop h (by simp [box1,h0,h1,h2]) hq,_,_,rfl⟩
  | some r2 =>
  have e2:=F98_some (by omega) h2
  rw [show ((4:Nat):Int)=4 from rfl] at e2
  cases h3:nm1 1 r2.2 with
  | none =>
   obtain ⟨l1,e3⟩:=F98_none h3
   rw [show ((1:Nat):Int)=1 from rfl] at e3
   exact .inr ⟨.inr (((3,()),()),((l1,()),(nn,nv,(),()),ls,())),by simp only [B96_0,d0,cTt,e0,e1,oBs,e2,e3],boxs_stop h (by simp [box1,h0,h1,h2,h3]) hq,_,_,rfl⟩
  | some r3 =>
  have e3:=F98_some (by omega) h3
  rw [show ((1:Nat):Int)=1 from rfl] at e3
  have hk:=nm1_lt h3
  obtain ⟨r4,e4,h4⟩:=L96_1_eq r3.2 (nn,nv,(),()) ls (r0.1,(r1.1:Int),(r2.1:Int),(),()) (cnt:Int) (i:Int) r3.1 (by omega)
  cases r4 with
  | inr q =>
   obtain ⟨h5,l4,rfl⟩:=h4
   exact .inr ⟨.inr (((3,()),()),((l4,()),(nn,nv,(),()),ls,())),by simp only [B96_0,d0,cTt,e0,e1,oBs,e2,e3,e4],boxs_stop h (by simp [box1,h0,h1,h2,h3,h5]) hq,_,_,rfl⟩
  | inl q =>
   obtain ⟨l4,ls4,h5,rfl⟩:=h4
   have hb:∀ x:Bx,bytesOK (ls.length+[x].length) 56=true:=λx=>bytes_ok (by simp only [List.length_singleton];omega)
   refine .inl ⟨_,by simp only [B96_0,d0,cTt,e0,e1,oBs,e2,e3,e4,hb,w1];rfl,⟨i+1,l4,_,h,?_,rfl,boxs_split h (by simp [box1,h0,h1,h2,h3,h5]) hq⟩,?_⟩
   ·rw [List.length_append,List.length_singleton];omega
   ·simp only;omega
 ·have hi':i=cnt:=by omega
  subst hi'
  exact .inr ⟨.inl (((),(),()),((l',()),(nn,nv,(),()),ls,())),by simp only [B96_0,Int.lt_irrefl,decide_false,cFf],_,_,boxs_end hq,rfl⟩
theorem rd_some {l:List UInt8} {u:Usr} {l':List UInt8} (h:usr1 l=some (u,l')):rdU l=u/\rdE l=if l'.length=0 then 0 else 4:=by
 unfold rdU rdE rdR
 cases h0:txt1 1 l with
 | none=>simp [usr1,h0] at h
 | some r0 =>
 cases h1:nm1 4 r0.2 with
 | none=>simp [usr1,h0,h1] at h
 | some r1 =>
 cases h2:nm1 1 r1.2 with
 | none=>simp [usr1,h0,h1,h2] at h
 | some r2 =>
 have e0:=F97_some h0
 have e1:=F98_some (by omega) h1
 have e2:=F98_some (by omega) h2
 rw [show ((4:Nat):Int)=4 from rfl] at e1
 rw [show ((1:Nat):Int)=1 from rfl] at e2
 have hk:=nm1_lt h2
 obtain ⟨r4,e4,h4⟩:=L96_0_eq r2.2 (r0.1,(r1.1:Int),(),()) r2.1 (by omega)
 cases r4 with
 | inr q =>
  obtain ⟨h5,-⟩:=h4
  simp [usr1,h0,h1,h2,h5] at h
 | inl q =>
  obtain ⟨l4,ls4,h5,rfl⟩:=h4
  simp only [usr1,h0,h1,h2,h5,oBs,oSi,Prod.mk.injEq] at h
  obtain ⟨rfl,rfl⟩:=h
  simp only [F96,e0,e1,e2,e4,oBs]
  exact ⟨trivial,trivial⟩
theorem rd_none {l:List UInt8} (h:usr1 l=none):rdE l=3:=by
 unfold rdE rdR
 cases h0:txt1 1 l with
 | none =>
  obtain ⟨l1,e0⟩:=F97_none h0
  simp only [F96,e0,oBs]
 | some r0 =>
 have e0:=F97_some h0
 cases h1:nm1 4 r0.2 with
 | none =>
  obtain ⟨l1,e1⟩:=F98_none h1
  rw [show ((4:Nat):Int)=4 from rfl] at e1
  simp only [F96,e0,e1,oBs]
 | some r1 =>
 have e1:=F98_some (by omega) h1
 rw [show ((4:Nat):Int)=4 from rfl] at e1
 cases h2:nm1 1 r1.2 with
 | none =>
  obtain ⟨l1,e2⟩:=F98_none h2
  rw [show ((1:Nat):Int)=1 from rfl] at e2
  simp only [F96,e0,e1,e2,oBs]
 | some r2 =>
 have e2:=F98_some (by omega) h2
 rw [show ((1:Nat):Int)=1 from rfl] at e2
 have hk:=nm1_lt h2
 obtain ⟨r4,e4,h4⟩:=L96_0_eq r2.2 (r0.1,(r1.1:Int),(),()) r2.1 (by omega)
 cases r4 with
 | inr q =>
  obtain ⟨h5,l4,ls4,rfl⟩:=h4
  simp only [F96,e0,e1,e2,e4,oBs]
 | inl q =>
  obtain ⟨l4,ls4,h5,rfl⟩:=h4
  simp [usr1,h0,h1,h2,h5] at h
theorem F86_some {n:Nat} {l:List UInt8} {q:List UInt8×List UInt8} (hn:n<=100000) (h:tak n l=some q):F86 (((),(n:Int),()),((l,false,()),()))=some ((),((q.2,false,()),q.1,())):=by
 unfold tak at h
 split at h
 ·cases h
 ·rename_i h'
  cases h
  have c0:decide (((l.length:Nat):Int)<(n:Int))=false:=dFf (by omega)
  have c1:decide ((0:Int)<=(n:Int))=true:=dTt (by omega)
  have c2:decide ((n:Int)<=((l.length:Nat):Int))=true:=dTt (by omega)
  have hb:bytesOK (0+(l.take n).length) 1=true:=bytes_ok (by rw [List.length_take];omega)
  simp only [F86,c0,Bool.or_self,cFf,c1,c2,Int.le_refl,dTr,bAs,cTt,nCt,hb,oBs,List.nil_append]
  rw [show (l.drop n).take (l.length-n)=l.drop n from List.take_of_length_le (by rw [List.length_drop];omega)]
theorem F86_none {n:Nat} {l:List UInt8} (h:tak n l=none):F86 (((),(n:Int),()),((l,false,()),()))=some ((),((l,true,()),[],())):=by
 unfold tak at h
 split at h
 ·rename_i h'
  have c0:decide (((l.length:Nat):Int)<(n:Int))=true:=dTt (by omega)
  simp only [F86,c0,Bool.or_true,cTt]
 ·cases h
theorem F86_off (n:Int) (l:List UInt8):F86 (((),n,()),((l,true,()),()))=some ((),((l,true,()),[],())):=by
 simp only [F86,Bool.true_or,cTt]
theorem F87_some {n:Nat} {l:List UInt8} {q:Nat×List UInt8} (hn:n<=4) (h:nm1 n l=some q):F87 (((),(n:Int),()),((l,false,()),()))=some ((q.1:Int),((q.2,false,()),())):=by
 unfold nm1 at h
 split at h
 ·cases h
 ·rename_i h'
  cases h
  have e:=F86_some (q:=(l.take n,l.drop n)) (n:=n) (l:=l) (by omega) (by unfold tak;rw [if_neg h'])
  have ht:(l.take n).length=n:=by rw [List.length_take];omega
  simp only [F87,e,oBs,L87_eq (l.drop n) (l.take n) false (by omega)]
theorem L87_nil (l:List UInt8) (off:Bool):L87_0 (((),(),(0:Int),(0:Int),()),((l,off,()),[],()))=some (((),(0:Int),()),((l,off,()),())):=L87_eq l [] off (Nat.zero_le _)
theorem F87_none {n:Nat} {l:List UInt8} (h:nm1 n l=none):F87 (((),(n:Int),()),((l,false,()),()))=some (0,((l,true,()),())):=by
 have e:F86 (((),(n:Int),()),((l,false,()),()))=some ((),((l,true,()),[],())):=F86_none (by
  unfold nm1 at h
  unfold tak
  split at h
  ·rename_i h';rw [if_pos h']
  ·cases h)
 simp only [F87,e,oBs,L87_nil]
theorem F87_off (n:Int) (l:List UInt8):F87 (((),n,()),((l,true,()),()))=some (0,((l,true,()),())):=by
 simp only [F87,F86_off,oBs,L87_nil]
abbrev BnU:Type:=Tx×Int×Int×Unit×Unit
abbrev stL (c0 i0:Int) (cnt i:Nat) (l:List UInt8) (off:Bool) (N:NmT) (B:BnU) (e5 e6:List Bx) (ls:List Ltr) :
  ((Unit×Unit×Unit×Int×Int×Unit×Int×Int×Unit)×((Unit×Unit×Unit×Unit)×(List UInt8×Bool×Unit)×NmT×BnU×List Bx×List Bx×List Ltr×Unit)) :=
 (((),(),(),c0,i0,(),(cnt:Int),(i:Int),()),(((),(),(),()),(l,off,()),N,B,e5,e6,ls,()))
theorem B62_1_go (c0 i0:Int) (cnt i:Nat) (l:List UInt8) (nn:Tx) (nv:Int) (bn:Tx) (bv bx:Int) (e5 e6:List Bx) (ls:List Ltr) (h:i<cnt) (hc:cnt<=255) (hl:ls.length<=i) :
  ∃ a l2 off,B62_1 (stL c0 i0 cnt i l false (nn,nv,(),()) (bn,bv,bx,(),()) e5 e6 ls)=some (.inl (stL c0 i0 cnt (i+1) l2 off (nn,nv,(),()) (bn,bv,bx,(),()) e5 e6 (ls++[a]))) /\
   (off=false->ltr1 l=some (a,l2))/\(off=true->ltr1 l=none):=by
 have d0:decide ((i:Int)<(cnt:Int))=true:=dTt (by omega)
 have w1:w64 ((i:Int)+1)=((i+1:Nat):Int):=by rw [w64_id (by omega) (by omega)];rfl
 have hb:∀ x:Ltr,bytesOK (ls.length+[x].length) 40=true:=λx=>bytes_ok (by simp only [List.length_singleton];omega)
 cases h1:nm1 4 l with
 | none =>
  have e1:=F87_none h1
  rw [show ((4:Nat):Int)=4 from rfl] at e1
  exact ⟨_,_,true,by simp only [stL,B62_1,d0,Bool.not_false,bAs,cTt,e1,oBs,F87_off,F86_off,hb,w1];rfl,nofun,λ_=>by simp [ltr1,h1]⟩
 | some r1 =>
 have e1:=F87_some (by omega) h1
 rw [show ((4:Nat):Int)=4 from rfl] at e1
 cases h2:nm1 1 r1.2 with
 | none =>
  have e2:=F87_none h2
  rw [show ((1:Nat):Int)=1 from rfl] at e2
  exact ⟨_,_,true,by simp only [stL,B62_1,d0,Bool.not_false,bAs,cTt,e1,e2,oBs,F87_off,F86_off,hb,w1];rfl,nofun,λ_=>by simp [ltr1,h1,h2]⟩
 | some r2 =>
 have e2:=F87_some (by omega) h2
 rw [show ((1:Nat):Int)=1 from rfl] at e2
 cases h3:nm1 2 r2.2 with
 | none =>
  have e3:=F87_none h3
  rw [show ((2:Nat):Int)=2 from rfl] at e3
  exact ⟨_,_,true,by simp only [stL,B62_1,d0,Bool.not_false,bAs,cTt,e1,e2,e3,oBs,F86_off,hb,w1];rfl,nofun,λ_=>by simp [ltr1,txt1,h1,h2,h3]⟩
 | some r3 =>
 have e3:=F87_some (by omega) h3
 rw [show ((2:Nat):Int)=2 from rfl] at e3
 have hk:=nm1_lt h3
 cases h4:tak r3.1 r3.2 with
 | none =>
  have e4:=F86_none h4
  exact ⟨_,_,true,by simp only [stL,B62_1,d0,Bool.not_false,bAs,cTt,e1,e2,e3,e4,oBs,hb,w1];rfl,nofun,λ_=>by simp [ltr1,txt1,h1,h2,h3,h4]⟩
 | some r4 =>
  have e4:=F86_some (by omega) h4
  exact ⟨_,_,false,by simp only [stL,B62_1,d0,Bool.not_false,bAs,cTt,e1,e2,e3,e4,oBs,hb,w1];rfl,λ_=>by simp [ltr1,txt1,h1,h2,h3,h4],nofun⟩
theorem L62_1_eq (l:List UInt8) (N:NmT) (B:BnU) (c0 i0:Int) (e5 e6:List Bx) (cnt:Nat) (hc:cnt<=255) :
  ∃ l' off ls',L62_1 (stL c0 i0 cnt 0 l false N B e5 e6 [])=some (((),(),(),c0,i0,(),()),(((),(),(),()),(l',off,()),N,B,e5,e6,ls',())) /\
   (off=false->ltrs cnt l=some (ls',l'))/\(off=true->ltrs cnt l=none):=by
 obtain ⟨nn,nv,⟨⟩,⟨⟩⟩:=N
 obtain ⟨bn,bv,bx,⟨⟩,⟨⟩⟩:=B
 have hF:=FUEL_big
 suffices h:∃ r,L62_1 (stL c0 i0 cnt 0 l false (nn,nv,(),()) (bn,bv,bx,(),()) e5 e6 [])=some r/\∃ l' off ls',r=(((),(),(),c0,i0,(),()),(((),(),(),()),(l',off,()),(nn,nv,(),()),(bn,bv,bx,(),()),e5,e6,ls',())) /\
   (off=false->ltrs cnt l=some (ls',l'))/\(off=true->ltrs cnt l=none) by
  obtain ⟨r,h1,l',off,ls',rfl,h2⟩:=h
  exact ⟨l',off,ls',h1,h2⟩
 unfold L62_1
 refine loop_ind (f:=B62_1) (λp=>∃ (i:Nat) (l':List UInt8) (off:Bool) (ls:List Ltr),i<=cnt/\ls.length<=i/\p=stL c0 i0 cnt i l' off (nn,nv,(),()) (bn,bv,bx,(),()) e5 e6 ls /\
   (off=false->ltrs cnt l=(ltrs (cnt-i) l').bind λq=>some (ls++q.1,q.2))/\(off=true->ltrs cnt l=none)) (λp=>cnt-p.1.2.2.2.2.2.2.2.1.toNat) _ ?_
  ⟨0,l,false,[],Nat.zero_le _,Nat.le_refl _,rfl,λ_=>by rw [Nat.sub_zero];cases ltrs cnt l <;> simp,nofun⟩ (by simp only;omega)
 rintro p ⟨i,l',off,ls,hi,hl,rfl,h1,h2⟩
 cases off with
 | true =>
  refine .inr ⟨_,?_,l',true,ls,rfl,nofun,λ_=>h2 rfl⟩
  simp only [B62_1,Bool.not_true,Bool.and_false,cFf]
 | false =>
  rcases Nat.lt_or_ge i cnt with h | h
  ·obtain ⟨a,l2,off,e,h3,h4⟩:=B62_1_go c0 i0 cnt i l' nn nv bn bv bx e5 e6 ls h hc hl
   refine .inl ⟨_,e,⟨i+1,l2,off,ls++[a],h,by rw [List.length_append,List.length_singleton];omega,rfl,λho=>?_,λho=>?_⟩,?_⟩
   ·exact ltrs_split h (h3 ho) (h1 rfl)
   ·exact ltrs_stop h (h4 ho) (h1 rfl)
   ·simp only [];omega
  ·have hi':i=cnt:=by omega
   subst hi'
   refine .inr ⟨_,?_,l',false,ls,rfl,λ_=>ltrs_end (h1 rfl),nofun⟩
   simp only [B62_1,Int.lt_irrefl,decide_false,Bool.false_and,cFf]
abbrev stB (cnt i:Nat) (l:List UInt8) (off:Bool) (N:NmT) (e5 e6:List Bx) :
  ((Unit×Unit×Unit×Int×Int×Unit)×((Unit×Unit×Unit×Unit)×(List UInt8×Bool×Unit)×NmT×List Bx×List Bx×Unit)) :=
 (((),(),(),(cnt:Int),(i:Int),()),(((),(),(),()),(l,off,()),N,e5,e6,()))
theorem B62_0_go (cnt i:Nat) (l:List UInt8) (nn:Tx) (nv:Int) (e5 ls:List Bx) (h:i<cnt) (hc:cnt<=255) (hl:ls.length<=i) :
  ∃ a l2 off,B62_0 (stB cnt i l false (nn,nv,(),()) e5 ls)=some (.inl (stB cnt (i+1) l2 off (nn,nv,(),()) e5 (ls++[a]))) /\
   (off=false->box1 l=some (a,l2))/\(off=true->box1 l=none):=by
 have d0:decide ((i:Int)<(cnt:Int))=true:=dTt (by omega)
 have w1:w64 ((i:Int)+1)=((i+1:Nat):Int):=by rw [w64_id (by omega) (by omega)];rfl
 have hb:∀ x:Bx,bytesOK (ls.length+[x].length) 56=true:=λx=>bytes_ok (by simp only [List.length_singleton];omega)
 have hz:∀ (l:List UInt8) (B:BnU),L62_1 (((),(),(),(cnt:Int),(i:Int),(),(0:Int),(0:Int),()),(((),(),(),()),(l,true,()),(nn,nv,(),()),B,e5,ls,([]:List Ltr),()))=some (((),(),(),(cnt:Int),(i:Int),(),()),(((),(),(),()),(l,true,()),(nn,nv,(),()),B,e5,ls,[],())):=λl B=>by
  unfold L62_1 loopOf
  have:FUEL=(FUEL-1)+1:=by have:=FUEL_big;omega
  rw [this,iter]
  simp only [B62_1,Int.lt_irrefl,decide_false,Bool.false_and,cFf]
 cases h0:nm1 1 l with
 | none =>
  have e0:=F87_none h0
  rw [show ((1:Nat):Int)=1 from rfl] at e0
  exact ⟨_,_,true,by simp only [stB,B62_0,d0,Bool.not_false,bAs,cTt,e0,oBs,F87_off,F86_off,hz,hb,w1];rfl,nofun,λ_=>by simp [box1,txt1,h0]⟩
 | some r0 =>
 have e0:=F87_some (by omega) h0
 rw [show ((1:Nat):Int)=1 from rfl] at e0
 have hk0:=nm1_lt h0
 cases h1:tak r0.1 r0.2 with
 | none =>
  have e1:=F86_none h1
  exact ⟨_,_,true,by simp only [stB,B62_0,d0,Bool.not_false,bAs,cTt,e0,e1,oBs,F87_off,hz,hb,w1];rfl,nofun,λ_=>by simp [box1,txt1,h0,h1]⟩
 | some r1 =>
 have e1:=F86_some (by omega) h1
 cases h2:nm1 4 r1.2 with
 | none =>
  have e2:=F87_none h2
  rw [show ((4:Nat):Int)=4 from rfl] at e2
  exact ⟨_,_,true,by simp only [stB,B62_0,d0,Bool.not_false,bAs,cTt,e0,e1,e2,oBs,F87_off,hz,hb,w1];rfl,nofun,λ_=>by simp [box1,txt1,h0,h1,h2]⟩
 | some r2 =>
 have e2:=F87_some (by omega) h2
 rw [show ((4:Nat):Int)=4 from rfl] at e2
 cases h3:nm1 4 r2.2 with
 | none =>
  have e3:=F87_none h3
  rw [show ((4:Nat):Int)=4 from rfl] at e3
  exact ⟨_,_,true,by simp only [stB,B62_0,d0,Bool.not_false,bAs,cTt,e0,e1,e2,e3,oBs,F87_off,hz,hb,w1];rfl,nofun,λ_=>by simp [box1,txt1,h0,h1,h2,h3]⟩
 | some r3 =>
 have e3:=F87_some (by omega) h3
 rw [show ((4:Nat):Int)=4 from rfl] at e3
 cases h4:nm1 1 r3.2 with
 | none =>
  have e4:=F87_none h4
  rw [show ((1:Nat):Int)=1 from rfl] at e4
  exact ⟨_,_,true,by simp only [stB,B62_0,d0,Bool.not_false,bAs,cTt,e0,e1,e2,e3,e4,oBs,hz,hb,w1];rfl,nofun,λ_=>by simp [box1,txt1,h0,h1,h2,h3,h4]⟩
 | some r4 =>
 have e4:=F87_some (by omega) h4
 rw [show ((1:Nat):Int)=1 from rfl] at e4
 have hk:=nm1_lt h4
 obtain ⟨l5,off,ls5,e5',h5,h6⟩:=L62_1_eq r4.2 (nn,nv,(),()) (r1.1,(r2.1:Int),(r3.1:Int),(),()) (cnt:Int) (i:Int) e5 ls r4.1 (by omega)
 simp only [stL] at e5'
 rw [show ((0:Nat):Int)=0 from rfl] at e5'
 exact ⟨_,_,off,by simp only [stB,B62_0,d0,Bool.not_false,bAs,cTt,e0,e1,e2,e3,e4,e5',oBs,hb,w1];rfl,λho=>by simp [box1,txt1,h0,h1,h2,h3,h4,h5 ho],λho=>by simp [box1,txt1,h0,h1,h2,h3,h4,h6 ho]⟩
theorem L62_0_eq (l:List UInt8) (N:NmT) (e5:List Bx) (cnt:Nat) (hc:cnt<=255) :
  ∃ l' off ls',L62_0 (stB cnt 0 l false N e5 [])=some (((),(),(),()),(((),(),(),()),(l',off,()),N,e5,ls',())) /\
   (off=false->boxs1 cnt l=some (ls',l'))/\(off=true->boxs1 cnt l=none):=by
 obtain ⟨nn,nv,⟨⟩,⟨⟩⟩:=N
 have hF:=FUEL_big
 suffices h:∃ r,L62_0 (stB cnt 0 l false (nn,nv,(),()) e5 [])=some r/\∃ l' off ls',r=(((),(),(),()),(((),(),(),()),(l',off,()),(nn,nv,(),()),e5,ls',())) /\
   (off=false->boxs1 cnt l=some (ls',l'))/\(off=true->boxs1 cnt l=none) by
  obtain ⟨r,h1,l',off,ls',rfl,h2⟩:=h
  exact ⟨l',off,ls',h1,h2⟩
 unfold L62_0
 refine loop_ind (f:=B62_0) (λp=>∃ (i:Nat) (l':List UInt8) (off:Bool) (ls:List Bx),i<=cnt/\ls.length<=i/\p=stB cnt i l' off (nn,nv,(),()) e5 ls /\
   (off=false->boxs1 cnt l=(boxs1 (cnt-i) l').bind λq=>some (ls++q.1,q.2))/\(off=true->boxs1 cnt l=none)) (λp=>cnt-p.1.2.2.2.2.1.toNat) _ ?_
  ⟨0,l,false,[],Nat.zero_le _,Nat.le_refl _,rfl,λ_=>by rw [Nat.sub_zero];cases boxs1 cnt l <;> simp,nofun⟩ (by simp only;omega)
 rintro p ⟨i,l',off,ls,hi,hl,rfl,h1,h2⟩
 cases off with
 | true =>
  refine .inr ⟨_,?_,l',true,ls,rfl,nofun,λ_=>h2 rfl⟩
  simp only [B62_0,Bool.not_true,Bool.and_false,cFf]
 | false =>
  rcases Nat.lt_or_ge i cnt with h | h
  ·obtain ⟨a,l2,off,e,h3,h4⟩:=B62_0_go cnt i l' nn nv e5 ls h hc hl
   refine .inl ⟨_,e,⟨i+1,l2,off,ls++[a],h,by rw [List.length_append,List.length_singleton];omega,rfl,λho=>?_,λho=>?_⟩,?_⟩
   ·exact boxs_split h (h3 ho) (h1 rfl)
   ·exact boxs_stop h (h4 ho) (h1 rfl)
   ·simp only [];omega
  ·have hi':i=cnt:=by omega
   subst hi'
   refine .inr ⟨_,?_,l',false,ls,rfl,λ_=>boxs_end (h1 rfl),nofun⟩
   simp only [B62_0,Int.lt_irrefl,decide_false,Bool.false_and,cFf]
noncomputable def took (l:List UInt8):Usr×Int :=
 match usr1 l with
 | none=>(([],0,[],()),3)
 | some (u,r)=>if r.length=0 then (match F44 ((u,()),()) with | some (e,_)=>if e=0 then (u,0) else (([],0,[],()),e) | none=>(([],0,[],()),0)) else (([],0,[],()),4)
theorem txt_le {w:Nat} {l:List UInt8} {q:List UInt8×List UInt8} (h:txt1 w l=some q):q.1.length<256^w:=by
 unfold txt1 at h
 cases h1:nm1 w l with
 | none=>rw [h1] at h;cases h
 | some r =>
  have:=nm1_lt h1
  rw [h1,oBs] at h
  unfold tak at h
  split at h
  ·cases h
  ·cases h
   rw [List.length_take]
   omega
theorem box_le {l:List UInt8} {b:Bx} {r:List UInt8} (h:box1 l=some (b,r)):b.1.length<256:=by
 unfold box1 at h
 cases h0:txt1 1 l with
 | none=>rw [h0] at h;cases h
 | some n =>
  have:=txt_le h0
  rw [h0,oBs] at h
  cases h1:nm1 4 n.2 with
  | none=>rw [h1] at h;cases h
  | some v =>
   rw [h1,oBs] at h
   cases h2:nm1 4 v.2 with
   | none=>rw [h2] at h;cases h
   | some x =>
    rw [h2,oBs] at h
    cases h3:nm1 1 x.2 with
    | none=>rw [h3] at h;cases h
    | some c =>
     rw [h3,oBs] at h
     cases h4:ltrs c.1 c.2 with
     | none=>rw [h4] at h;cases h
     | some q =>
      rw [h4,oBs] at h
      cases h
      exact this
theorem boxs_le:∀ (n:Nat) {l:List UInt8} {bs:List Bx} {r:List UInt8},boxs1 n l=some (bs,r)->∀ b∈bs,b.1.length<256
 | 0,l,bs,r,h,b,hb=>by
  cases h
  cases hb
 | n+1,l,bs,r,h,b,hb=>by
  simp only [boxs1] at h
  cases h1:box1 l with
  | none=>rw [h1] at h;cases h
  | some q =>
   rw [h1,oBs] at h
   cases h2:boxs1 n q.2 with
   | none=>rw [h2] at h;cases h
   | some s =>
    rw [h2,oBs] at h
    cases h
    rcases List.mem_cons.1 hb with rfl | hb
    ·exact box_le h1
    ·exact boxs_le n h2 b hb
theorem usr_le {l:List UInt8} {u:Usr} {r:List UInt8} (h:usr1 l=some (u,r)):u.1.length<256/\∀ b∈u.2.2.1,b.1.length<256:=by
 unfold usr1 at h
 cases h0:txt1 1 l with
 | none=>rw [h0] at h;cases h
 | some n =>
  have:=txt_le h0
  rw [h0,oBs] at h
  cases h1:nm1 4 n.2 with
  | none=>rw [h1] at h;cases h
  | some v =>
   rw [h1,oBs] at h
   cases h2:nm1 1 v.2 with
   | none=>rw [h2] at h;cases h
   | some c =>
    rw [h2,oBs] at h
    cases h3:boxs1 c.1 c.2 with
    | none=>rw [h3] at h;cases h
    | some q =>
     rw [h3,oBs] at h
     cases h
     exact ⟨this,boxs_le _ h3⟩
theorem F75_took (l:List UInt8):F75 ((l,()),())=some (((took l).1,(took l).2,()),()):=by
 have hok:=(rd_ok l).1
 unfold took
 cases h:usr1 l with
 | none =>
  have e:=rd_none h
  simp only [F75,hok,cTt,e,dFf (show ¬(3:Int)=0 by omega),cFf,oBs,Bool.not_false]
 | some q =>
  obtain ⟨u,r⟩:=q
  obtain ⟨e1,e2⟩:=rd_some h
  by_cases hr:r.length=0
  ·rw [if_pos hr] at e2
   obtain ⟨e,h4,-⟩:=F44_ex u (Nat.le_trans (Nat.le_of_lt (usr_le h).1) (by decide))
   have hu:((rdU l).1,(rdU l).2.1,(rdU l).2.2.1,())=u:=by rw [e1]
   simp only [F75,hok,cTt,e2,dTr,hu,h4,oBs,hr,↓reduceIte]
   by_cases he:e=0
   ·subst he
    simp []
   ·simp [he]
  ·rw [if_neg hr] at e2
   simp only [F75,hok,cTt,e2,dFf (show ¬(4:Int)=0 by omega),cFf,oBs,Bool.not_false,hr,↓reduceIte]
theorem F62_took (l:List UInt8):F62 ((l,()),())=some ((((took l).1.1,(took l).1.2.1,(),()),(took l).2,()),((took l).1.2.2.1,())):=by
 unfold took
 have key:∀ (l5:List UInt8) (N:NmT) (bs:List Bx) (off:Bool),∃ x:Unit,x=():=λ_ _ _ _=>⟨(),rfl⟩
 have hz:∀ (l:List UInt8) (N:NmT),L62_0 (((),(),(),(0:Int),(0:Int),()),(((),(),(),()),(l,true,()),N,([]:List Bx),([]:List Bx),()))=some (((),(),(),()),(((),(),(),()),(l,true,()),N,[],[],())):=λl N=>by
  unfold L62_0 loopOf
  have:FUEL=(FUEL-1)+1:=by have:=FUEL_big;omega
  rw [this,iter]
  simp only [B62_0,Int.lt_irrefl,decide_false,Bool.false_and,cFf]
 cases h0:nm1 1 l with
 | none =>
  have e0:=F87_none h0
  rw [show ((1:Nat):Int)=1 from rfl] at e0
  have hu:usr1 l=none:=by simp [usr1,txt1,h0]
  simp only [F62,e0,oBs,F86_off,F87_off,hz,cTt,hu]
 | some r0 =>
 have e0:=F87_some (by omega) h0
 rw [show ((1:Nat):Int)=1 from rfl] at e0
 have hk0:=nm1_lt h0
 cases h1:tak r0.1 r0.2 with
 | none =>
  have e1:=F86_none h1
  have hu:usr1 l=none:=by simp [usr1,txt1,h0,h1]
  simp only [F62,e0,e1,oBs,F87_off,hz,cTt,hu]
 | some r1 =>
 have e1:=F86_some (by omega) h1
 cases h2:nm1 4 r1.2 with
 | none =>
  have e2:=F87_none h2
  rw [show ((4:Nat):Int)=4 from rfl] at e2
  have hu:usr1 l=none:=by simp [usr1,txt1,h0,h1,h2]
  simp only [F62,e0,e1,e2,oBs,F87_off,hz,cTt,hu]
 | some r2 =>
 have e2:=F87_some (by omega) h2
 rw [show ((4:Nat):Int)=4 from rfl] at e2
 cases h3:nm1 1 r2.2 with
 | none =>
  have e3:=F87_none h3
  rw [show ((1:Nat):Int)=1 from rfl] at e3
  have hu:usr1 l=none:=by simp [usr1,txt1,h0,h1,h2,h3]
  simp only [F62,e0,e1,e2,e3,oBs,hz,cTt,hu]
 | some r3 =>
 have e3:=F87_some (by omega) h3
 rw [show ((1:Nat):Int)=1 from rfl] at e3
 have hk:=nm1_lt h3
 obtain ⟨l5,off,bs,e5,h5,h6⟩:=L62_0_eq r3.2 (r1.1,(r2.1:Int),(),()) [] r3.1 (by omega)
 simp only [stB] at e5
 rw [show ((0:Nat):Int)=0 from rfl] at e5
 cases off with
 | true =>
  have hu:usr1 l=none:=by simp [usr1,txt1,h0,h1,h2,h3,h6 rfl]
  simp only [F62,e0,e1,e2,e3,e5,oBs,cTt,hu]
 | false =>
  have hu:usr1 l=some ((r1.1,(r2.1:Int),bs,()),l5):=by simp [usr1,txt1,h0,h1,h2,h3,h5 rfl]
  have hle:=usr_le hu
  have e6:=F13_F44 (r1.1,(r2.1:Int),bs,()) (Nat.le_trans (Nat.le_of_lt hle.1) (by decide)) (λb hb=>Nat.le_trans (Nat.le_of_lt (hle.2 b hb)) (by decide))
  obtain ⟨e,e7,-⟩:=F44_ex (r1.1,(r2.1:Int),bs,()) (Nat.le_trans (Nat.le_of_lt hle.1) (by decide))
  rw [e7] at e6
  by_cases hr:l5.length=0
  ·have c0:decide ((0:Int)<((l5.length:Nat):Int))=false:=dFf (by omega)
   simp only [F62,e0,e1,e2,e3,e5,oBs,cFf,e6,hu,hr,↓reduceIte,e7]
   by_cases he:e=0
   ·subst he
    simp
   ·simp [he]
  ·have c0:decide ((0:Int)<((l5.length:Nat):Int))=true:=dTt (by omega)
   simp only [F62,e0,e1,e2,e3,e5,oBs,cFf,c0,cTt,hu,hr,↓reduceIte]
theorem not_nil (s:Tx):decide ((0:Int)<((s.length:Nat):Int))=!(decide (s=([]:List UInt8))):=by
 cases s
 ·rfl
 ·simp
theorem fl_zero (c:UInt8):decide (((c.toNat:Nat):Int)=0)=decide (c=0):=by
 rw [decide_eq_decide]
 refine ⟨λh=>UInt8.toNat_inj.1 (by rw [show UInt8.toNat 0=0 from rfl];omega),λh=>by subst h;rfl⟩
theorem fl_low (c:UInt8):(decide (c=0)||decide (c.toNat<UInt8.toNat 32))=(decide ((0:Int)<=((c.toNat:Nat):Int))&&decide (((c.toNat:Nat):Int)<=31)):=by
 have z:UInt8.toNat 32=32:=rfl
 rw [z,Bool.eq_iff_iff]
 simp only [Bool.or_eq_true,bAt,dTe]
 constructor
 ·rintro (h | h)
  ·subst h;decide
  ·omega
 ·intro h;right;omega
theorem how_low (n:Int):(decide (n=0)||(decide (n=1)||decide (n=2)))=(decide (0<=n)&&decide (n<=2)):=by
 rw [Bool.eq_iff_iff]
 simp only [Bool.or_eq_true,bAt,dTe]
 omega
theorem sh_low (n:Int):(decide (n=0)||(decide (0<n)&&decide (n<4)))=(decide (0<=n)&&decide (n<=3)):=by
 rw [Bool.eq_iff_iff]
 simp only [Bool.or_eq_true,bAt,dTe]
 omega
theorem F94_eq (a:Bool) (n x y:Int):F94 ((a,n,x,y,()),())=some (cond a (decide (x<=n)&&decide (n<=y)) (decide (n=0)),()):=by
 cases a <;> rfl
theorem bls:(∀ b,(true&&b)=b)/\(∀ b,(false&&b)=false)/\(∀ b,(b&&true)=b)/\(∀ b,(b&&false)=false)/\(∀ b,(true||b)=true)/\(∀ b,(false||b)=b)/\(∀ b,(b||true)=true)/\(∀ b,(b||false)=b)/\(!true)=false/\(!false)=true:=by simp
theorem chkZ:decide ((1:Int)<1)=false/\decide (9<(1:Int))=false/\decide ((1:Int)=3)=false/\decide ((1:Int)=4)=false/\decide ((1:Int)=5)=false/\decide ((1:Int)=6)=false/\decide ((1:Int)=7)=false/\decide ((1:Int)=8)=false/\decide ((1:Int)=9)=false/\decide ((2:Int)<1)=false/\decide (9<(2:Int))=false/\decide ((2:Int)=3)=false/\decide ((2:Int)=4)=false/\decide ((2:Int)=5)=false/\decide ((2:Int)=6)=false/\decide ((2:Int)=7)=false/\decide ((2:Int)=8)=false/\decide ((2:Int)=9)=false/\decide ((3:Int)<1)=false/\decide (9<(3:Int))=false/\decide ((3:Int)=4)=false/\decide ((3:Int)=5)=false/\decide ((3:Int)=6)=false/\decide ((3:Int)=7)=false/\decide ((3:Int)=8)=false/\decide ((3:Int)=9)=false/\decide ((4:Int)<1)=false/\decide (9<(4:Int))=false/\decide ((4:Int)=3)=false/\decide ((4:Int)=5)=false/\decide ((4:Int)=6)=false/\decide ((4:Int)=7)=false/\decide ((4:Int)=8)=false/\decide ((4:Int)=9)=false/\decide ((5:Int)<1)=false/\decide (9<(5:Int))=false/\decide ((5:Int)=3)=false/\decide ((5:Int)=4)=false/\decide ((5:Int)=6)=false/\decide ((5:Int)=7)=false/\decide ((5:Int)=8)=false/\decide ((5:Int)=9)=false/\decide ((6:Int)<1)=false/\decide (9<(6:Int))=false/\decide ((6:Int)=3)=false/\decide ((6:Int)=4)=false/\decide ((6:Int)=5)=false/\decide ((6:Int)=7)=false/\decide ((6:Int)=8)=false/\decide ((6:Int)=9)=false/\decide ((7:Int)<1)=false/\decide (9<(7:Int))=false/\decide ((7:Int)=3)=false/\decide ((7:Int)=4)=false/\decide ((7:Int)=5)=false/\decide ((7:Int)=6)=false/\decide ((7:Int)=8)=false/\decide ((7:Int)=9)=false/\decide ((8:Int)<1)=false/\decide (9<(8:Int))=false/\decide ((8:Int)=3)=false/\decide ((8:Int)=4)=false/\decide ((8:Int)=5)=false/\decide ((8:Int)=6)=false/\decide ((8:Int)=7)=false/\decide ((8:Int)=9)=false/\decide ((9:Int)<1)=false/\decide (9<(9:Int))=false/\decide ((9:Int)=3)=false/\decide ((9:Int)=4)=false/\decide ((9:Int)=5)=false/\decide ((9:Int)=6)=false/\decide ((9:Int)=7)=false/\decide ((9:Int)=8)=false/\(decide ((2:Int)<=1)&&decide ((1:Int)<=7))=false/\(decide ((2:Int)<=8)&&decide ((8:Int)<=7))=false/\(decide ((2:Int)<=9)&&decide ((9:Int)<=7))=false/\(decide ((2:Int)<=2)&&decide ((2:Int)<=7))=true/\(decide ((2:Int)<=3)&&decide ((3:Int)<=7))=true/\(decide ((2:Int)<=4)&&decide ((4:Int)<=7))=true/\(decide ((2:Int)<=5)&&decide ((5:Int)<=7))=true/\(decide ((2:Int)<=6)&&decide ((6:Int)<=7))=true/\(decide ((2:Int)<=7)&&decide ((7:Int)<=7))=true:=by simp
theorem chkS:(∀ s:Tx,F70 ((s,()),())=some (rightB s,()))/\(∀ a n x y,F94 ((a,n,x,y,()),())=some (cond a (decide (x<=n)&&decide (n<=y)) (decide (n=0)),()))/\(∀ l,F75 ((l,()),())=some (((took l).1,(took l).2,()),())) /\
  (∀ l,F62 ((l,()),())=some ((((took l).1.1,(took l).1.2.1,(),()),(took l).2,()),((took l).1.2.2.1,())))/\(∀ s:Tx,decide ((0:Int)<((s.length:Nat):Int))=!(decide (s=([]:List UInt8)))) :=
 ⟨F70_eq,F94_eq,F75_took,F62_took,not_nil⟩
theorem F92_at (l:List Int) (b:Bool) (d:Dd) (e:decide (d.1∈l)=b) (hl:l.length<=32):F92 ((l,(),()),(d,()))=some (b,(d,())):=by rw [F92_eq _ _ hl,e]
theorem chk_1 (du db dt:Tx) (uid how:Int) (fl:UInt8) (ds de:Int) (by':Tx) (hu:du.length<=maxLen) (hb:db.length<=1100000) (ht:dt.length<=1100000) :
  F60 (((1,du,db,dt,uid,how,fl,ds,de,by',()),()),())=F73 (((1,du,db,dt,uid,how,fl,ds,de,by',()),()),()):=by
 have H l b e h:=F92_at l b (1,du,db,dt,uid,how,fl,ds,de,by',()) e h
 have h0:=H [2,3,4,5,6,7] false (by simp) (by decide)
 have h1:=H [7] false (by simp) (by decide)
 have h2:=H [5,6] false (by simp) (by decide)
 have h3:=H [5] false (by simp) (by decide)
 have h4:=H [4,5] false (by simp) (by decide)
 have h5:=H [9] false (by simp) (by decide)
 have h6:=H [8,9] false (by simp) (by decide)
 have h7:=H [4] false (by simp) (by decide)
 have h8:=H [4,8] false (by simp) (by decide)
 have h9:=H [8] false (by simp) (by decide)
 have g1:=F69_eq du hu
 have g2:=F32_eq du hu
 have g3:=F33_eq db hb
 have g4:=F33_eq dt ht
 simp only [*,chkS,chkZ,bls,fl_zero,oBs,cond,F73,F60]
 all_goals (cases q0:rightU du <;> try simp only [*,bls,oBs])
 all_goals (cases q1:decide (db=[]) <;> try simp only [*,bls,oBs,dTr])
 all_goals (cases q2:decide (dt=[]) <;> try simp only [*,bls,oBs])
 all_goals (cases q3:decide (uid=0) <;> try simp only [*,bls,oBs])
 all_goals (cases q4:decide (how=0) <;> try simp only [*,bls,oBs])
 all_goals (cases q5:decide (fl=0) <;> try simp only [*,bls,oBs])
 all_goals (cases q6:decide (ds=0) <;> try simp only [*,bls,oBs])
 all_goals (cases q7:decide (de=0) <;> try simp only [*,bls,oBs])
 all_goals (cases q8:decide (by'=[]) <;> try simp only [*,bls,oBs])
theorem chk_2 (du db dt:Tx) (uid how:Int) (fl:UInt8) (ds de:Int) (by':Tx) (hu:du.length<=maxLen) (hb:db.length<=1100000) (ht:dt.length<=1100000) :
  F60 (((2,du,db,dt,uid,how,fl,ds,de,by',()),()),())=F73 (((2,du,db,dt,uid,how,fl,ds,de,by',()),()),()):=by
 have H l b e h:=F92_at l b (2,du,db,dt,uid,how,fl,ds,de,by',()) e h
 have h0:=H [2,3,4,5,6,7] true (by simp) (by decide)
 have h1:=H [7] false (by simp) (by decide)
 have h2:=H [5,6] false (by simp) (by decide)
 have h3:=H [5] false (by simp) (by decide)
 have h4:=H [4,5] false (by simp) (by decide)
 have h5:=H [9] false (by simp) (by decide)
 have h6:=H [8,9] false (by simp) (by decide)
 have h7:=H [4] false (by simp) (by decide)
 have h8:=H [4,8] false (by simp) (by decide)
 have h9:=H [8] false (by simp) (by decide)
 have g1:=F69_eq du hu
 have g2:=F32_eq du hu
 have g3:=F33_eq db hb
 have g4:=F33_eq dt ht
 simp only [*,chkS,chkZ,bls,fl_zero,oBs,cond,F73,F60]
 all_goals (cases q0:rightU du <;> try simp only [*,bls,oBs])
 all_goals (cases q1:rightB db <;> try simp only [*,bls,oBs,dTr])
 all_goals (cases q2:decide (dt=[]) <;> try simp only [*,bls,oBs])
 all_goals (cases q3:decide (uid=0) <;> try simp only [*,bls,oBs])
 all_goals (cases q4:decide (how=0) <;> try simp only [*,bls,oBs])
 all_goals (cases q5:decide (fl=0) <;> try simp only [*,bls,oBs])
 all_goals (cases q6:decide (ds=0) <;> try simp only [*,bls,oBs])
 all_goals (cases q7:decide (de=0) <;> try simp only [*,bls,oBs])
 all_goals (cases q8:decide (by'=[]) <;> try simp only [*,bls,oBs])
theorem chk_3 (du db dt:Tx) (uid how:Int) (fl:UInt8) (ds de:Int) (by':Tx) (hu:du.length<=maxLen) (hb:db.length<=1100000) (ht:dt.length<=1100000) :
  F60 (((3,du,db,dt,uid,how,fl,ds,de,by',()),()),())=F73 (((3,du,db,dt,uid,how,fl,ds,de,by',()),()),()):=by
 have H l b e h:=F92_at l b (3,du,db,dt,uid,how,fl,ds,de,by',()) e h
 have h0:=H [2,3,4,5,6,7] true (by simp) (by decide)
 have h1:=H [7] false (by simp) (by decide)
 have h2:=H [5,6] false (by simp) (by decide)
 have h3:=H [5] false (by simp) (by decide)
 have h4:=H [4,5] false (by simp) (by decide)
 have h5:=H [9] false (by simp) (by decide)
 have h6:=H [8,9] false (by simp) (by decide)
 have h7:=H [4] false (by simp) (by decide)
 have h8:=H [4,8] false (by simp) (by decide)
 have h9:=H [8] false (by simp) (by decide)
 have g1:=F69_eq du hu
 have g2:=F32_eq du hu
 have g3:=F33_eq db hb
 have g4:=F33_eq dt ht
 simp only [*,chkS,chkZ,bls,fl_zero,oBs,cond,F73,F60]
 all_goals (cases q0:rightU du <;> try simp only [*,bls,oBs])
 all_goals (cases q1:rightB db <;> try simp only [*,bls,oBs,dTr])
 all_goals (cases q2:decide (dt=[]) <;> try simp only [*,bls,oBs])
 all_goals (cases q3:decide (uid=0) <;> try simp only [*,bls,oBs])
 all_goals (cases q4:decide (how=0) <;> try simp only [*,bls,oBs])
 all_goals (cases q5:decide (fl=0) <;> try simp only [*,bls,oBs])
 all_goals (cases q6:decide (ds=0) <;> try simp only [*,bls,oBs])
 all_goals (cases q7:decide (de=0) <;> try simp only [*,bls,oBs])
 all_goals (cases q8:decide (by'=[]) <;> try simp only [*,bls,oBs])
theorem chk_4 (du db dt:Tx) (uid how:Int) (fl:UInt8) (ds de:Int) (by':Tx) (hu:du.length<=maxLen) (hb:db.length<=1100000) (ht:dt.length<=1100000) :
  F60 (((4,du,db,dt,uid,how,fl,ds,de,by',()),()),())=F73 (((4,du,db,dt,uid,how,fl,ds,de,by',()),()),()):=by
 have H l b e h:=F92_at l b (4,du,db,dt,uid,how,fl,ds,de,by',()) e h
 have h0:=H [2,3,4,5,6,7] true (by simp) (by decide)
 have h1:=H [7] false (by simp) (by decide)
 have h2:=H [5,6] false (by simp) (by decide)
 have h3:=H [5] false (by simp) (by decide)
 have h4:=H [4,5] true (by simp) (by decide)
 have h5:=H [9] false (by simp) (by decide)
 have h6:=H [8,9] false (by simp) (by decide)
 have h7:=H [4] true (by simp) (by decide)
 have h8:=H [4,8] true (by simp) (by decide)
 have h9:=H [8] false (by simp) (by decide)
 have g1:=F69_eq du hu
 have g2:=F32_eq du hu
 have g3:=F33_eq db hb
 have g4:=F33_eq dt ht
 simp only [*,chkS,chkZ,bls,fl_zero,fl_low,oBs,dTr,cond,F73,F60]
 all_goals (cases q0:rightU du <;> try simp only [*,bls,oBs])
 all_goals (cases q1:rightB db <;> try simp only [*,bls,oBs,dTr])
 all_goals (cases q2:decide (dt=[]) <;> try simp only [*,bls,oBs])
 all_goals (cases q3:decide (uid=0) <;> try simp only [*,bls,oBs])
 all_goals (cases q4:decide (how=0) <;> try simp only [*,bls,oBs])
 all_goals (cases q5:(decide ((0:Int)<=((fl.toNat:Nat):Int))&&decide (((fl.toNat:Nat):Int)<=31)) <;> try simp only [*,bls,oBs])
 all_goals (cases q6:decide (ds=0) <;> try simp only [*,bls,oBs])
 all_goals (cases q7:decide (de=0) <;> try simp only [*,bls,oBs])
 all_goals (cases q8:decide ((600:Int)<((by'.length:Nat):Int)) <;> try simp only [*,oBs])
theorem chk_5 (du db dt:Tx) (uid how:Int) (fl:UInt8) (ds de:Int) (by':Tx) (hu:du.length<=maxLen) (hb:db.length<=1100000) (ht:dt.length<=1100000) :
  F60 (((5,du,db,dt,uid,how,fl,ds,de,by',()),()),())=F73 (((5,du,db,dt,uid,how,fl,ds,de,by',()),()),()):=by
 have H l b e h:=F92_at l b (5,du,db,dt,uid,how,fl,ds,de,by',()) e h
 have h0:=H [2,3,4,5,6,7] true (by simp) (by decide)
 have h1:=H [7] false (by simp) (by decide)
 have h2:=H [5,6] true (by simp) (by decide)
 have h3:=H [5] true (by simp) (by decide)
 have h4:=H [4,5] true (by simp) (by decide)
 have h5:=H [9] false (by simp) (by decide)
 have h6:=H [8,9] false (by simp) (by decide)
 have h7:=H [4] false (by simp) (by decide)
 have h8:=H [4,8] false (by simp) (by decide)
 have h9:=H [8] false (by simp) (by decide)
 have g1:=F69_eq du hu
 have g2:=F32_eq du hu
 have g3:=F33_eq db hb
 have g4:=F33_eq dt ht
 simp only [*,chkS,chkZ,bls,fl_zero,fl_low,how_low,oBs,dTr,cond,F73,F60]
 all_goals (cases q0:rightU du <;> try simp only [*,bls,oBs])
 all_goals (cases q1:rightB db <;> try simp only [*,bls,oBs,dTr])
 all_goals (cases q2:decide (dt=[]) <;> try simp only [*,bls,oBs])
 all_goals (cases q3:(decide (1<=uid)&&decide (uid<=4294967295)) <;> try simp only [*,bls,oBs])
 all_goals (cases q4:(decide (0<=how)&&decide (how<=2)) <;> try simp only [*,bls,oBs])
 all_goals (cases q5:(decide ((0:Int)<=((fl.toNat:Nat):Int))&&decide (((fl.toNat:Nat):Int)<=31)) <;> try simp only [*,bls,oBs])
 all_goals (cases q6:decide (ds=0) <;> try simp only [*,bls,oBs])
 all_goals (cases q7:decide (de=0) <;> try simp only [*,bls,oBs])
 all_goals (cases q8:decide (by'=[]) <;> try simp only [*,bls,oBs])
theorem chk_6 (du db dt:Tx) (uid how:Int) (fl:UInt8) (ds de:Int) (by':Tx) (hu:du.length<=maxLen) (hb:db.length<=1100000) (ht:dt.length<=1100000) :
  F60 (((6,du,db,dt,uid,how,fl,ds,de,by',()),()),())=F73 (((6,du,db,dt,uid,how,fl,ds,de,by',()),()),()):=by
 have H l b e h:=F92_at l b (6,du,db,dt,uid,how,fl,ds,de,by',()) e h
 have h0:=H [2,3,4,5,6,7] true (by simp) (by decide)
 have h1:=H [7] false (by simp) (by decide)
 have h2:=H [5,6] true (by simp) (by decide)
 have h3:=H [5] false (by simp) (by decide)
 have h4:=H [4,5] false (by simp) (by decide)
 have h5:=H [9] false (by simp) (by decide)
 have h6:=H [8,9] false (by simp) (by decide)
 have h7:=H [4] false (by simp) (by decide)
 have h8:=H [4,8] false (by simp) (by decide)
 have h9:=H [8] false (by simp) (by decide)
 have g1:=F69_eq du hu
 have g2:=F32_eq du hu
 have g3:=F33_eq db hb
 have g4:=F33_eq dt ht
 simp only [*,chkS,chkZ,bls,fl_zero,oBs,dTr,cond,F73,F60]
 all_goals (cases q0:rightU du <;> try simp only [*,bls,oBs])
 all_goals (cases q1:rightB db <;> try simp only [*,bls,oBs,dTr])
 all_goals (cases q2:decide (dt=[]) <;> try simp only [*,bls,oBs])
 all_goals (cases q3:(decide (1<=uid)&&decide (uid<=4294967295)) <;> try simp only [*,bls,oBs])
 all_goals (cases q4:decide (how=0) <;> try simp only [*,bls,oBs])
 all_goals (cases q5:decide (fl=0) <;> try simp only [*,bls,oBs])
 all_goals (cases q6:decide (ds=0) <;> try simp only [*,bls,oBs])
 all_goals (cases q7:decide (de=0) <;> try simp only [*,bls,oBs])
 all_goals (cases q8:decide (by'=[]) <;> try simp only [*,bls,oBs])
theorem chk_7 (du db dt:Tx) (uid how:Int) (fl:UInt8) (ds de:Int) (by':Tx) (hu:du.length<=maxLen) (hb:db.length<=1100000) (ht:dt.length<=1100000) :
  F60 (((7,du,db,dt,uid,how,fl,ds,de,by',()),()),())=F73 (((7,du,db,dt,uid,how,fl,ds,de,by',()),()),()):=by
 have H l b e h:=F92_at l b (7,du,db,dt,uid,how,fl,ds,de,by',()) e h
 have h0:=H [2,3,4,5,6,7] true (by simp) (by decide)
 have h1:=H [7] true (by simp) (by decide)
 have h2:=H [5,6] false (by simp) (by decide)
 have h3:=H [5] false (by simp) (by decide)
 have h4:=H [4,5] false (by simp) (by decide)
 have h5:=H [9] false (by simp) (by decide)
 have h6:=H [8,9] false (by simp) (by decide)
 have h7:=H [4] false (by simp) (by decide)
 have h8:=H [4,8] false (by simp) (by decide)
 have h9:=H [8] false (by simp) (by decide)
 have g1:=F69_eq du hu
 have g2:=F32_eq du hu
 have g3:=F33_eq db hb
 have g4:=F33_eq dt ht
 simp only [*,chkS,chkZ,bls,fl_zero,oBs,dTr,cond,F73,F60]
 all_goals (cases q0:rightU du <;> try simp only [*,bls,oBs])
 all_goals (cases q1:rightB db <;> try simp only [*,bls,oBs])
 all_goals (cases q2:rightB dt <;> try simp only [*,bls,oBs,dTr])
 all_goals (cases q3:decide (uid=0) <;> try simp only [*,bls,oBs])
 all_goals (cases q4:decide (how=0) <;> try simp only [*,bls,oBs])
 all_goals (cases q5:decide (fl=0) <;> try simp only [*,bls,oBs])
 all_goals (cases q6:decide (ds=0) <;> try simp only [*,bls,oBs])
 all_goals (cases q7:decide (de=0) <;> try simp only [*,bls,oBs])
 all_goals (cases q8:decide (by'=[]) <;> try simp only [*,bls,oBs])
theorem chk_8 (du db dt:Tx) (uid how:Int) (fl:UInt8) (ds de:Int) (by':Tx) (hu:du.length<=maxLen) (hb:db.length<=1100000) (ht:dt.length<=1100000) :
  F60 (((8,du,db,dt,uid,how,fl,ds,de,by',()),()),())=F73 (((8,du,db,dt,uid,how,fl,ds,de,by',()),()),()):=by
 have H l b e h:=F92_at l b (8,du,db,dt,uid,how,fl,ds,de,by',()) e h
 have h0:=H [2,3,4,5,6,7] false (by simp) (by decide)
 have h1:=H [7] false (by simp) (by decide)
 have h2:=H [5,6] false (by simp) (by decide)
 have h3:=H [5] false (by simp) (by decide)
 have h4:=H [4,5] false (by simp) (by decide)
 have h5:=H [9] false (by simp) (by decide)
 have h6:=H [8,9] true (by simp) (by decide)
 have h7:=H [4] false (by simp) (by decide)
 have h8:=H [4,8] true (by simp) (by decide)
 have h9:=H [8] true (by simp) (by decide)
 have g1:=F69_eq du hu
 have g2:=F32_eq du hu
 have g3:=F33_eq db hb
 have g4:=F33_eq dt ht
 simp only [*,chkS,chkZ,bls,fl_zero,oBs,dTr,cond,F73,F60]
 all_goals (cases q0:rightU du <;> try simp only [*,bls,oBs])
 all_goals (cases q1:decide (db=[]) <;> try simp only [*,bls,oBs,dTr])
 all_goals (cases q2:decide (dt=[]) <;> try simp only [*,bls,oBs])
 all_goals (cases q3:decide (uid=0) <;> try simp only [*,bls,oBs])
 all_goals (cases q4:decide (how=0) <;> try simp only [*,bls,oBs])
 all_goals (cases q5:decide (fl=0) <;> try simp only [*,bls,oBs])
 all_goals (cases q6:decide (ds=0) <;> try simp only [*,bls,oBs])
 all_goals (cases q7:(decide (1<=de)&&decide (de<=4294967295)) <;> try simp only [*,bls,oBs])
 generalize took by'=tk
 obtain ⟨⟨t1,t2,t3,⟨⟩⟩,te⟩:=tk
 simp only
 by_cases he:te=0
 ·subst he
  by_cases hn:t1=du
  ·simp [hn]
  ·simp [hn]
 ·simp [he]
theorem chk_9 (du db dt:Tx) (uid how:Int) (fl:UInt8) (ds de:Int) (by':Tx) (hu:du.length<=maxLen) (hb:db.length<=1100000) (ht:dt.length<=1100000) :
  F60 (((9,du,db,dt,uid,how,fl,ds,de,by',()),()),())=F73 (((9,du,db,dt,uid,how,fl,ds,de,by',()),()),()):=by
 have H l b e h:=F92_at l b (9,du,db,dt,uid,how,fl,ds,de,by',()) e h
 have h0:=H [2,3,4,5,6,7] false (by simp) (by decide)
 have h1:=H [7] false (by simp) (by decide)
 have h2:=H [5,6] false (by simp) (by decide)
 have h3:=H [5] false (by simp) (by decide)
 have h4:=H [4,5] false (by simp) (by decide)
 have h5:=H [9] true (by simp) (by decide)
 have h6:=H [8,9] true (by simp) (by decide)
 have h7:=H [4] false (by simp) (by decide)
 have h8:=H [4,8] false (by simp) (by decide)
 have h9:=H [8] false (by simp) (by decide)
 have g1:=F69_eq du hu
 have g2:=F32_eq du hu
 have g3:=F33_eq db hb
 have g4:=F33_eq dt ht
 simp only [*,chkS,chkZ,bls,fl_zero,sh_low,oBs,dTr,cond,F73,F60]
 all_goals (cases q0:rightU du <;> try simp only [*,bls,oBs])
 all_goals (cases q1:decide (db=[]) <;> try simp only [*,bls,oBs,dTr])
 all_goals (cases q2:decide (dt=[]) <;> try simp only [*,bls,oBs])
 all_goals (cases q3:decide (uid=0) <;> try simp only [*,bls,oBs])
 all_goals (cases q4:decide (how=0) <;> try simp only [*,bls,oBs])
 all_goals (cases q5:decide (fl=0) <;> try simp only [*,bls,oBs])
 all_goals (cases q6:(decide (0<=ds)&&decide (ds<=3)) <;> try simp only [*,bls,oBs])
 all_goals (cases q7:(decide (1<=de)&&decide (de<=4294967295)) <;> try simp only [*,bls,oBs])
 all_goals (cases q8:decide (by'=[]) <;> try simp only [*,bls,oBs])
theorem F60_F73 (d:Dd) (hu:d.2.1.length<=maxLen) (hb:d.2.2.1.length<=1100000) (ht:d.2.2.2.1.length<=1100000):F60 ((d,()),())=F73 ((d,()),()):=by
 obtain ⟨dd,du,db,dt,uid,how,fl,ds,de,by',⟨⟩⟩:=d
 by_cases h:1<=dd/\dd<=9
 ·have:dd=1\/dd=2\/dd=3\/dd=4\/dd=5\/dd=6\/dd=7\/dd=8\/dd=9:=by omega
  rcases this with rfl | rfl | rfl | rfl | rfl | rfl | rfl | rfl | rfl
  ·exact chk_1 du db dt uid how fl ds de by' hu hb ht
  ·exact chk_2 du db dt uid how fl ds de by' hu hb ht
  ·exact chk_3 du db dt uid how fl ds de by' hu hb ht
  ·exact chk_4 du db dt uid how fl ds de by' hu hb ht
  ·exact chk_5 du db dt uid how fl ds de by' hu hb ht
  ·exact chk_6 du db dt uid how fl ds de by' hu hb ht
  ·exact chk_7 du db dt uid how fl ds de by' hu hb ht
  ·exact chk_8 du db dt uid how fl ds de by' hu hb ht
  ·exact chk_9 du db dt uid how fl ds de by' hu hb ht
 ·have c:(decide (dd<1)||decide (9<dd))=true:=by
   rw [Bool.or_eq_true,dTe,dTe];omega
  have h0:=F92_eq [(2:Int),3,4,5,6,7] (dd,du,db,dt,uid,how,fl,ds,de,by',()) (by decide)
  simp only [F73,F60,c,cTt,h0,oBs]
abbrev Ur:Type:=Tx×(Int×(List Bx×Unit))
abbrev nou:Ur:=([],0,[],())
theorem getDu_eq {ly:List Ur} {i:Nat} (h:i<ly.length):ly.getD i nou=ly[i]:=by
 rw [List.getD_eq_getElem?_getD,List.getElem?_eq_getElem h];rfl
theorem getDb_eq {ls:List Bx} {i:Nat} (h:i<ls.length):ls.getD i nob=ls[i]:=by
 rw [List.getD_eq_getElem?_getD,List.getElem?_eq_getElem h];rfl
theorem F41_eq (ly:List Ur) (nm:Tx) (hl:ly.length<=1000) :
  ∃ lo:Nat,F41 ((true,nm,()),((ly,()),()))=some (((lo:Int),decide (lo<ly.length)&&decide ((ly.getD lo nou).1=nm),()),((ly,()),()))/\lo<=ly.length /\
   (∀ k,k<lo->(ly.getD k nou).1<nm)/\(lo<ly.length->¬ (ly.getD lo nou).1<nm):=by
 have hF:=FUEL_big
 obtain ⟨r,h1,lo,rfl,h2,h3,h4⟩:=loop_ind (f:=B41_0) (p:=((true,nm,(0:Int),()),((ly,()),())))
  (λp=>∃ i:Nat,i<=ly.length/\(∀ k,k<i->(ly.getD k nou).1<nm)/\p=((true,nm,(i:Int),()),((ly,()),()))) (λp=>ly.length-p.1.2.2.1.toNat)
  (λr=>∃ lo:Nat,r=((true,nm,(lo:Int),()),((ly,()),()))/\lo<=ly.length/\(∀ k,k<lo->(ly.getD k nou).1<nm)/\(lo<ly.length->¬ (ly.getD lo nou).1<nm))
  (λp ⟨i,hi,hk,hp⟩=>by
   subst hp
   rcases Nat.lt_or_ge i ly.length with h | h
   ·have d0:decide ((i:Int)<((ly.length:Nat):Int))=true:=dTt (by omega)
    have d1:decide ((0:Int)<=(i:Int))=true:=dTt (by omega)
    have w1:w64 ((i:Int)+1)=((i+1:Nat):Int):=by rw [w64_id (by omega) (by omega)];rfl
    by_cases hb:(ly.getD i nou).1<nm
    ·left
     refine ⟨((true,nm,((i+1:Nat):Int),()),((ly,()),())),?_,⟨i+1,h,λk hk'=>?_,rfl⟩,by simp only;omega⟩
     ·have hb':Op.bytesLess (ly.getD i (([]:Tx),((0:Int),(([]:(List Bx)),())))).1 nm=true:=by rw [bl_eq];exact dTt hb
      simp only [B41_0,d0,d1,bAs,Bool.true_or,cTt,nCt,hb',w1]
     ·rcases Nat.lt_or_ge k i with h' | h'
      ·exact hk k h'
      ·obtain rfl:k=i:=by omega
       exact hb
    ·right
     refine ⟨((true,nm,(i:Int),()),((ly,()),())),?_,i,rfl,hi,hk,λ_=>hb⟩
     have hb':Op.bytesLess (ly.getD i (([]:Tx),((0:Int),(([]:(List Bx)),())))).1 nm=false:=by rw [bl_eq];exact dFf hb
     simp only [B41_0,d0,d1,bAs,Bool.true_or,cTt,nCt,hb',Bool.and_false,cFf]
   ·right
    have d0:decide ((i:Int)<((ly.length:Nat):Int))=false:=dFf (by omega)
    refine ⟨((true,nm,(i:Int),()),((ly,()),())),?_,i,rfl,hi,hk,λh'=>absurd h' (by omega)⟩
    simp only [B41_0,d0,Bool.not_false,Bool.or_true,cTt,Bool.false_and,cFf])
  ⟨0,Nat.zero_le _,λk hk=>absurd hk (Nat.not_lt_zero _),rfl⟩ (by simp only;omega)
 refine ⟨lo,?_,h2,h3,h4⟩
 have hL:L41_0 ((true,nm,(0:Int),()),((ly,()),()))=some ((true,nm,(lo:Int),()),((ly,()),())):=h1
 have d1:decide ((0:Int)<=(lo:Int))=true:=dTt (by omega)
 have e:decide ((lo:Int)<((ly.length:Nat):Int))=decide (lo<ly.length):=by rw [decide_eq_decide];omega
 have o:∀ b:Bool,(b||!b)=true:=λb=>by cases b <;> rfl
 simp only [F41,hL,oBs,cTt,Bool.true_or,d1,Bool.true_and,e,o,nCt]
theorem F63_eq (ly L:List Ur) (i k:Nat) (hl:ly.length<=1000) (hL:L.length<=1000) (hi:i<=ly.length) (hk:k<=ly.length) :
  F63 ((true,(i:Int),(k:Int),L,()),((ly,()),()))=some ((),(((),()),ly.take i++L++ly.drop k,())):=by
 have d1:decide ((0:Int)<=(i:Int))=true:=dTt (by omega)
 have d2:decide ((i:Int)<=((ly.length:Nat):Int))=true:=dTt (by omega)
 have d3:decide ((0:Int)<=(k:Int))=true:=dTt (by omega)
 have d4:decide ((k:Int)<=((ly.length:Nat):Int))=true:=dTt (by omega)
 have b1:bytesOK (([]:List Ur).length+(ly.take i).length) 48=true:=bytes_ok (by rw [List.length_take,List.length_nil];omega)
 have b2:bytesOK ((ly.take i).length+L.length) 48=true:=bytes_ok (by rw [List.length_take];omega)
 have b3:bytesOK ((ly.take i++L).length+((ly.drop k).take (ly.length-k)).length) 48=true:=bytes_ok (by rw [List.length_append,List.length_take,List.length_take,List.length_drop];omega)
 have e:(ly.drop k).take (ly.length-k)=ly.drop k:=List.take_of_length_le (by rw [List.length_drop];omega)
 rw [e] at b3
 simp only [F63,cTt,d1,d2,d3,d4,Int.le_refl,dTr,bAs,nCt,b1,b2,b3,e,oBs,List.nil_append]
def but (ls:List Bx) (nm:Tx):List Bx:=ls.filter λb=>!decide (b.1=nm)
def oneG (nm:Tx) (o:Box) (b:Bx):Box:=if b.1=nm then bxOf b else o
theorem F40_eq (u:Usr) (nm:Tx) (hl:u.2.2.1.length<=1000):F40 ((u,nm,()),())=some (((),u.2.2.1.foldl (oneG nm) empty,hasB u.2.2.1 nm,()),(but u.2.2.1 nm,())):=by
  obtain ⟨un,uv,ls,⟨⟩⟩:=u
  change ls.length<=1000 at hl
  have hF:=FUEL_big
  have hL:L40_0 ((nm,(),(),(),(),false,(0:Int),()),((un,uv,ls,()),((),(),(),(),()),([]:List Bx),empty,([]:List Ltr),()))=some (((),(),(),hasB ls nm,()),(((),(),(),(),()),but ls nm,ls.foldl (oneG nm) empty,([]:List Ltr),())):=by
    unfold L40_0
    refine (walk_listI (f:=B40_0) (λ(c:Bool×(List Bx×Box)) i=>((nm,(),(),(),(),c.1,(i:Int),()),((un,uv,ls,()),((),(),(),(),()),c.2.1,(c.2.2.1,c.2.2.2.1,c.2.2.2.2.1,c.2.2.2.2.2.1,()),([]:List Ltr),()))) ls
      (λa c=>.inl (c.1||decide (a.1=nm),(if a.1=nm then c.2.1 else c.2.1++[a]),oneG nm c.2.2 a)) (λc=>(((),(),(),c.1,()),(((),(),(),(),()),c.2.1,(c.2.2.1,c.2.2.2.1,c.2.2.2.2.1,c.2.2.2.2.2.1,()),([]:List Ltr),()))) (λc i=>c.2.1.length<=i)
      (λc i a hI hi ha=>?_) (λc _=>?_) (by omega) (b:=(false,([],empty))) (Nat.le_refl _)).trans ?_
    . refine .inl ⟨_,rfl,?_,?_⟩
      . simp only
        split
        . omega
        . rw [List.length_append,List.length_singleton];omega
      . have d0:decide ((i:Int)<((ls.length:Nat):Int))=true:=dTt (by omega)
        have d1:decide ((0:Int)<=(i:Int))=true:=dTt (by omega)
        have w1:w64 ((i:Int)+1)=((i+1:Nat):Int):=by rw [w64_id (by omega) (by omega)];rfl
        have b1:∀ x:Bx,bytesOK (c.2.1.length+[x].length) 56=true:=λx=>bytes_ok (by simp only [List.length_singleton];omega)
        have ha':=ha nob
        by_cases h:a.1=nm
        . simp only [B40_0,d0,d1,bAs,cTt,nCt,ha',h,dTr,oBs,w1,Bool.or_true,oneG,↓reduceIte,bxOf]
        . simp only [B40_0,d0,d1,bAs,cTt,nCt,ha',dFf h,cFf,b1,oBs,w1,Bool.or_false,oneG,if_neg h]
    . simp only [B40_0,Int.lt_irrefl,decide_false,cFf]
    . have:∀ (l:List Bx) (c:Bool×(List Bx×Box)),foldS (λ(a:Bx) (c:Bool×(List Bx×Box))=>(.inl (c.1||decide (a.1=nm),(if a.1=nm then c.2.1 else c.2.1++[a]),oneG nm c.2.2 a):(Bool×(List Bx×Box))⊕_)) (λc=>(((),(),(),c.1,()),(((),(),(),(),()),c.2.1,(c.2.2.1,c.2.2.2.1,c.2.2.2.2.1,c.2.2.2.2.2.1,()),([]:List Ltr),()))) c l =
          (((),(),(),c.1||hasB l nm,()),(((),(),(),(),()),c.2.1++but l nm,l.foldl (oneG nm) c.2.2,([]:List Ltr),())):=λl=>by
        induction l with
        | nil=>intro c;simp [foldS,hasB,but]
        | cons a t ih =>
          intro c
          simp only [foldS]
          rw [ih]
          by_cases h:a.1=nm
          . simp [hasB,but,h,oneG]
          . simp [hasB,but,h,oneG]
      rw [this]
      simp only [Bool.false_or,List.nil_append]
  have he:(([]:Tx),(0:Int),(0:Int),([]:List Ltr),())=empty:=rfl
  simp only [F40,oBs,he,hL]
def lay1 (b:Bx):List Bx->List Bx
 | []=>[b]
 | x::t=>if b.1<x.1 then b::x::t else x::lay1 b t
def layG (b:Bx) (c:Bool×List Bx) (a:Bx):Bool×List Bx:=if c.1=false/\b.1<a.1 then (true,c.2++[b]++[a]) else (c.1,c.2++[a])
theorem layG_true (b:Bx):∀ (l o:List Bx),l.foldl (layG b) (true,o)=(true,o++l)
 | [],o=>by simp
 | a::t,o=>by
  simp only [List.foldl_cons]
  rw [show layG b (true,o) a=(true,o++[a]) by simp [layG],layG_true b t]
  simp
theorem layG_false (b:Bx):∀ (l o:List Bx),cond (l.foldl (layG b) (false,o)).1 (l.foldl (layG b) (false,o)).2 ((l.foldl (layG b) (false,o)).2++[b])=o++lay1 b l
 | [],o=>by simp [lay1]
 | a::t,o=>by
  simp only [List.foldl_cons,lay1]
  by_cases h:b.1<a.1
  ·rw [show layG b (false,o) a=(true,o++[b]++[a]) by simp [layG,h],layG_true b t]
   simp [h]
  ·rw [show layG b (false,o) a=(false,o++[a]) by simp [layG,h],layG_false b t]
   simp [h]
theorem F64_eq (ls:List Bx) (b:Bx) (hl:ls.length<=1000):F64 ((ls,bxOf b,()),())=some ((),(lay1 b ls,())):=by
 obtain ⟨bn,bv,bx,bl,⟨⟩⟩:=b
 have hF:=FUEL_big
 have hL:L64_0 ((ls,(),(),false,(0:Int),()),((bn,bv,bx,bl,()),([]:List Bx),()))=some (((),(),(ls.foldl (layG (bn,bv,bx,bl,())) (false,[])).1,()),((bn,bv,bx,bl,()),(ls.foldl (layG (bn,bv,bx,bl,())) (false,[])).2,())):=by
  unfold L64_0
  refine (walk_listI (f:=B64_0) (λ(c:Bool×List Bx) i=>((ls,(),(),c.1,(i:Int),()),((bn,bv,bx,bl,()),c.2,()))) ls (λa c=>.inl (layG (bn,bv,bx,bl,()) c a)) (λc=>(((),(),c.1,()),((bn,bv,bx,bl,()),c.2,()))) (λc i=>c.2.length<=i+(if c.1=true then 1 else 0))
   (λc i a hI hi ha=>?_) (λc _=>?_) (by omega) (b:=(false,[])) (by simp)).trans ?_
  ·have d0:decide ((i:Int)<((ls.length:Nat):Int))=true:=dTt (by omega)
   have d1:decide ((0:Int)<=(i:Int))=true:=dTt (by omega)
   have w1:w64 ((i:Int)+1)=((i+1:Nat):Int):=by rw [w64_id (by omega) (by omega)];rfl
   have ha':=ha nob
   obtain ⟨done,o⟩:=c
   simp only at hI
   have ho:o.length<=i+1:=by
    split at hI <;> omega
   have b1:∀ x:Bx,bytesOK (o.length+[x].length) 56=true:=λx=>bytes_ok (by simp only [List.length_singleton];omega)
   have b2:∀ x y:Bx,bytesOK ((o++[x]).length+[y].length) 56=true:=λx y=>bytes_ok (by simp only [List.length_append,List.length_singleton];omega)
   refine .inl ⟨_,rfl,?_,?_⟩
   ·unfold layG
    simp only
    by_cases h:done=false/\bn<a.1
    ·rw [if_pos h]
     rw [h.1] at hI
     simp only [List.length_append,List.length_singleton,↓reduceIte]
     simp at hI
     omega
    ·rw [if_neg h]
     simp only [List.length_append,List.length_singleton]
     omega
   ·cases done with
    | true =>
     simp only [B64_0,d0,d1,bAs,cTt,Bool.not_true,Bool.not_false,Bool.or_true,Bool.false_and,cFf,oBs,nCt,ha',b1,w1,layG,Bool.true_eq_false,false_and,↓reduceIte]
    | false =>
     by_cases h:bn<a.1
     ·have hb:Op.bytesLess bn a.1=true:=by rw [bl_eq];exact dTt h
      simp only [B64_0,d0,d1,bAs,cTt,Bool.not_true,Bool.not_false,Bool.true_or,hb,oBs,nCt,ha',b1,b2,w1,layG,h,and_self,↓reduceIte]
     ·have hb:Op.bytesLess bn a.1=false:=by rw [bl_eq];exact dFf h
      simp only [B64_0,d0,d1,bAs,cTt,Bool.not_true,Bool.not_false,Bool.true_or,Bool.and_false,hb,cFf,oBs,nCt,ha',b1,w1,layG,h,and_false,↓reduceIte]
  ·simp only [B64_0,Int.lt_irrefl,decide_false,cFf]
  ·rw [foldS_inl (layG (bn,bv,bx,bl,()))]
 have hl2:∀ (l:List Bx) (c:Bool×List Bx),(l.foldl (layG (bn,bv,bx,bl,())) c).2.length<=c.2.length+2*l.length:=λl=>by
  induction l with
  | nil=>intro c;simp
  | cons a t ih =>
   intro c
   simp only [List.foldl_cons,List.length_cons]
   refine Nat.le_trans (ih _) ?_
   unfold layG
   split
   ·simp only [List.length_append,List.length_singleton];omega
   ·simp only [List.length_append,List.length_singleton];omega
 have hlen:=hl2 ls (false,[])
 have key:=layG_false (bn,bv,bx,bl,()) ls []
 simp only [F64,bxOf,oBs,hL]
 rw [List.nil_append] at key
 cases hd:(ls.foldl (layG (bn,bv,bx,bl,())) (false,[])).1 with
 | true =>
  rw [hd,cTt] at key
  simp only [Bool.not_true,cFf,oBs,key]
 | false =>
  rw [hd,cFf] at key
  have b1:∀ x:Bx,bytesOK ((ls.foldl (layG (bn,bv,bx,bl,())) (false,[])).2.length+[x].length) 56=true:=λx=>bytes_ok (by simp only [List.length_singleton];simp at hlen;omega)
  simp only [Bool.not_false,cTt,b1,oBs,key]
def cntM (frm:Tx) (ls:List Bx):Nat:=ls.countP λb=>moves b.1 frm
noncomputable def allR (frm tt:Tx) (ls:List Bx):Bool:=ls.all λb=>rightB (undr b.1 frm tt)
theorem cntM_succ {frm:Tx} {ls:List Bx} {i:Nat} (h:i<ls.length):cntM frm (ls.take (i+1))=cntM frm (ls.take i)+(if moves ls[i].1 frm=true then 1 else 0):=by
 unfold cntM
 rw [List.take_succ_eq_append_getElem h,List.countP_append]
 simp [List.countP_cons]
theorem L77_0_eq (un:Tx) (uv:Int) (d:Dd) (ls xs:List Bx) (hl:ls.length<=6) (hn:∀ b∈ls,rightB b.1=true) (h2:d.2.2.1.length<=1100000) (h3:d.2.2.2.1.length<=1100000) :
  ∃ r:R77,L77_0 (((),(),(),(0:Int),(),((ls.length:Nat):Int),(0:Int),()),((un,uv,(),()),d,((),(),(),()),ls,xs,()))=some r /\
   match r with
   | .inl q=>q=(((),(),((cntM d.2.2.1 ls:Nat):Int),()),((un,uv,(),()),((),(),(),()),ls.map (ren d.2.2.1 d.2.2.2.1),xs,()))/\allR d.2.2.1 d.2.2.2.1 ls=true
   | .inr q=>(∃ cur,q=(((),(),(),()),((un,uv,(),()),cur,())))/\allR d.2.2.1 d.2.2.2.1 ls=false:=by
 obtain ⟨dd,du,db,dt,uid,how,fl,ds,de,by',⟨⟩⟩:=d
 simp only at h2 h3 ⊢
 have hF:=FUEL_big
 unfold L77_0
 refine loop_ind (f:=B77_0) (λp=>∃ (i:Nat),i<=ls.length/\(∀ k,k<i->rightB (undr (ls.getD k nob).1 db dt)=true) /\
   p=(((),(),(),((cntM db (ls.take i):Nat):Int),(),((ls.length:Nat):Int),(i:Int),()),((un,uv,(),()),(dd,du,db,dt,uid,how,fl,ds,de,by',()),((),(),(),()),(ls.take i).map (ren db dt)++ls.drop i,xs,())))
  (λp=>ls.length-p.1.2.2.2.2.2.2.1.toNat) _ ?_ ⟨0,Nat.zero_le _,λk hk=>absurd hk (Nat.not_lt_zero _),by simp [cntM]⟩ (by simp only;omega)
 rintro p ⟨i,hi,hk,rfl⟩
 rcases Nat.lt_or_ge i ls.length with h | h
 ·have d0:decide ((i:Int)<((ls.length:Nat):Int))=true:=dTt (by omega)
  have d1:decide ((0:Int)<=(i:Int))=true:=dTt (by omega)
  have w1:w64 ((i:Int)+1)=((i+1:Nat):Int):=by rw [w64_id (by omega) (by omega)];rfl
  have hc:=cntM_succ (frm:=db) h
  have hcl:cntM db (ls.take i)<=6:=Nat.le_trans List.countP_le_length (by rw [List.length_take];omega)
  have w2:w64 (((cntM db (ls.take i):Nat):Int)+1)=((cntM db (ls.take i)+1:Nat):Int):=by rw [w64_id (by omega) (by omega)];rfl
  have hlen:((ls.take i).map (ren db dt)++ls.drop i).length=ls.length:=by simp;omega
  have hti:((ls.take i).map (ren db dt)).length=i:=by simp;omega
  obtain ⟨⟨bn,bv,bx,bl,⟨⟩⟩,hb⟩:∃ b,ls[i]=b:=⟨_,rfl⟩
  rw [hb] at hc
  have hcur:(ls.take i).map (ren db dt)++ls.drop i=(ls.take i).map (ren db dt)++((bn,(bv,(bx,(bl,()))))::ls.drop (i+1)):=by
   rw [List.drop_eq_getElem_cons h,hb]
  have hg:((ls.take i).map (ren db dt)++ls.drop i).getD i (([]:List UInt8),((0:Int),((0:Int),(([]:(List Ltr)),()))))=(bn,(bv,(bx,(bl,())))):=by
   rw [hcur,List.getD_eq_getElem?_getD,List.getElem?_append_right (by omega),hti,Nat.sub_self]
   rfl
  have hset:∀ x:Bx,((ls.take i).map (ren db dt)++ls.drop i).set i x=(ls.take i).map (ren db dt)++(x::ls.drop (i+1)):=λx=>by
   rw [hcur]
   have:=append_set ((ls.take i).map (ren db dt)) (ls.drop (i+1)) (bn,(bv,(bx,(bl,())))) x
   rw [hti] at this
   exact this
  have hnext:(ls.take i).map (ren db dt)++((undr bn db dt,(bv,(bx,(bl,()))))::ls.drop (i+1))=(ls.take (i+1)).map (ren db dt)++ls.drop (i+1):=by
   rw [List.take_succ_eq_append_getElem h,List.map_append,List.map_cons,hb]
   simp [ren]
  have hbn:bn.length<=24:=by
   have:=name_le (hn ls[i] (List.getElem_mem h))
   rw [hb] at this
   exact this
  have e102:=F102_eq bn db dt (by omega) h2 h3
  have e70:=F70_eq (undr bn db dt)
  generalize hC:(ls.take i).map (ren db dt)++ls.drop i=C at hlen hg hset
  cases hr:rightB (undr bn db dt) with
  | false =>
   rw [hr] at e70
   right
   refine ⟨.inr (((),(),(),()),((un,uv,(),()),C,())),?_,⟨_,rfl⟩,?_⟩
   ·cases hm:moves bn db with
    | false =>
     rw [hm] at e102
     simp only [B77_0,d0,d1,hlen,bAs,cTt,cFf,nCt,oBs,hg,e102,e70,Bool.not_false]
    | true =>
     rw [hm] at e102
     simp only [B77_0,d0,d1,hlen,bAs,cTt,nCt,oBs,hg,e102,e70,Bool.not_false]
   ·unfold allR
    rw [List.all_eq_false]
    exact ⟨ls[i],List.getElem_mem h,by rw [hb];simp [hr]⟩
  | true =>
   rw [hr] at e70
   left
   have hgood:∀ k,k<i+1->rightB (undr (ls.getD k nob).1 db dt)=true:=λk hk'=>by
    rcases Nat.lt_or_ge k i with h' | h'
    ·exact hk k h'
    ·obtain rfl:k=i:=by omega
     rw [List.getD_eq_getElem?_getD,List.getElem?_eq_getElem h,hb]
     exact hr
   cases hm:moves bn db with
   | false =>
    rw [hm] at e102 hc
    rw [if_neg (by simp)] at hc
    refine ⟨_,by simp only [B77_0,d0,d1,hlen,bAs,cTt,cFf,nCt,oBs,hg,e102,e70,Bool.not_true,hset,hnext,w1];rfl,⟨i+1,h,hgood,by rw [hc];rfl⟩,?_⟩
    simp only;omega
   | true =>
    rw [hm] at e102 hc
    rw [if_pos rfl] at hc
    refine ⟨_,by simp only [B77_0,d0,d1,hlen,bAs,cTt,cFf,nCt,oBs,hg,e102,e70,Bool.not_true,hset,hnext,w1,w2];rfl,⟨i+1,h,hgood,by rw [hc]⟩,?_⟩
    simp only;omega
 ·have hi':i=ls.length:=by omega
  subst hi'
  right
  refine ⟨.inl (((),(),((cntM db ls:Nat):Int),()),((un,uv,(),()),((),(),(),()),ls.map (ren db dt),xs,())),?_,rfl,?_⟩
  ·simp only [B77_0,Int.lt_irrefl,decide_false,cFf,List.take_length,List.drop_length,List.append_nil]
  ·unfold allR
   rw [List.all_eq_true]
   intro b hb
   obtain ⟨k,hk',rfl⟩:=List.getElem_of_mem hb
   have:=hk k hk'
   rw [List.getD_eq_getElem?_getD,List.getElem?_eq_getElem hk'] at this
   exact this
theorem L77_1_eq (un:Tx) (uv n:Int) (ls xs:List Bx) (h1:1<=ls.length) (hl:ls.length<=6) :
  ∃ r:R77,L77_1 (((),(),n,((ls.length-1:Nat):Int),(0:Int),()),((un,uv,(),()),((),(),(),()),ls,xs,()))=some r /\
   match r with
   | .inl q=>q=(((),(),n,()),((un,uv,(),()),((),(),(),()),ls,xs,()))/\∀ k,k+1<ls.length->(ls.getD k nob).1≠(ls.getD (k+1) nob).1
   | .inr q=>q=(((),(),(),()),((un,uv,(),()),ls,()))/\∃ k,k+1<ls.length/\(ls.getD k nob).1=(ls.getD (k+1) nob).1:=by
 have hF:=FUEL_big
 unfold L77_1
 refine loop_ind (f:=B77_1) (λp=>∃ (i:Nat),i<=ls.length-1/\(∀ k,k<i->(ls.getD k nob).1≠(ls.getD (k+1) nob).1) /\
   p=(((),(),n,((ls.length-1:Nat):Int),(i:Int),()),((un,uv,(),()),((),(),(),()),ls,xs,())))
  (λp=>ls.length-p.1.2.2.2.2.1.toNat) _ ?_ ⟨0,Nat.zero_le _,λk hk=>absurd hk (Nat.not_lt_zero _),rfl⟩ (by simp only;omega)
 rintro p ⟨i,hi,hk,rfl⟩
 rcases Nat.lt_or_ge i (ls.length-1) with h | h
 ·have d0:decide ((i:Int)<((ls.length-1:Nat):Int))=true:=dTt (by omega)
  have d1:decide ((0:Int)<=(i:Int))=true:=dTt (by omega)
  have d2:decide ((i:Int)<((ls.length:Nat):Int))=true:=dTt (by omega)
  have w1:w64 ((i:Int)+1)=((i+1:Nat):Int):=by rw [w64_id (by omega) (by omega)];rfl
  have d3:decide ((0:Int)<=((i+1:Nat):Int))=true:=dTt (by omega)
  have d4:decide (((i+1:Nat):Int)<((ls.length:Nat):Int))=true:=dTt (by omega)
  by_cases he:(ls.getD i nob).1=(ls.getD (i+1) nob).1
  ·right
   refine ⟨.inr (((),(),(),()),((un,uv,(),()),ls,())),?_,rfl,i,by omega,he⟩
   simp only [B77_1,d0,d1,d2,w1,d3,d4,bAs,cTt,nCt,he,dTr]
  ·left
   refine ⟨_,by simp only [B77_1,d0,d1,d2,w1,d3,d4,bAs,cTt,nCt,he,decide_false,cFf],⟨i+1,h,λk hk'=>?_,rfl⟩,?_⟩
   ·rcases Nat.lt_or_ge k i with h' | h'
    ·exact hk k h'
    ·obtain rfl:k=i:=by omega
     exact he
   ·simp only;omega
 ·have hi':i=ls.length-1:=by omega
  subst hi'
  right
  refine ⟨.inl (((),(),n,()),((un,uv,(),()),((),(),(),()),ls,xs,())),?_,rfl,λk hk'=>hk k (by omega)⟩
  simp only [B77_1,Int.lt_irrefl,decide_false,cFf]
theorem lay1_perm (b:Bx):∀ (l:List Bx),(lay1 b l).Perm (b::l)
 | []=>List.Perm.refl _
 | x::t=>by
  unfold lay1
  split
  ·exact List.Perm.refl _
  ·exact ((lay1_perm b t).cons x).trans (List.Perm.swap b x t)
theorem lay1_len (b:Bx) (l:List Bx):(lay1 b l).length=l.length+1:=(lay1_perm b l).length_eq
theorem lay1_rise (b:Bx):∀ (l:List Bx),l.Pairwise (λa b=>a.1<b.1)->(∀ x∈l,x.1≠b.1)->(lay1 b l).Pairwise (λa b=>a.1<b.1)
 | [],_,_=>by simp [lay1]
 | x::t,h,hn=>by
  obtain ⟨h1,h2⟩:=List.pairwise_cons.1 h
  unfold lay1
  split
  ·rename_i hb
   refine List.pairwise_cons.2 ⟨λy hy=>?_,h⟩
   rcases List.mem_cons.1 hy with rfl | hy
   ·exact hb
   ·exact List.lt_trans hb (h1 y hy)
  ·rename_i hb
   refine List.pairwise_cons.2 ⟨λy hy=>?_,lay1_rise b t h2 λz hz=>hn z (List.mem_cons_of_mem _ hz)⟩
   rcases List.mem_cons.1 ((lay1_perm b t).mem_iff.1 hy) with rfl | hy
   ·exact tx_total hb λe=>hn x (List.mem_cons_self ..) e.symm
   ·exact h1 y hy
theorem rise_eq:∀ {a b:List Bx},a.Perm b->a.Pairwise (λa b=>a.1<b.1)->b.Pairwise (λa b=>a.1<b.1)->a=b
 | [],b,h,_,_=>h.nil_eq
 | x::t,[],h,_,_=>by have:=h.length_eq;simp at this
 | x::t,y::s,h,h1,h2=>by
  obtain ⟨k1,k2⟩:=List.pairwise_cons.1 h1
  obtain ⟨k3,k4⟩:=List.pairwise_cons.1 h2
  have e:x=y:=by
   rcases List.mem_cons.1 (h.mem_iff.1 (List.mem_cons_self ..)) with e | hx
   ·exact e
   ·rcases List.mem_cons.1 (h.symm.mem_iff.1 (List.mem_cons_self ..)) with e | hy
    ·exact e.symm
    ·exact absurd (List.lt_trans (k3 x hx) (k1 y hy)) (List.lt_irrefl _)
  subst e
  rw [rise_eq (List.Perm.cons_inv h) k2 k4]
def renG (f t:Tx) (c:Int×Bool×List Bx) (b:Bx):Int×Bool×List Bx :=
 ((if moves b.1 f=true then c.1+1 else c.1),c.2.1||c.2.2.any (λx=>decide (x.1=undr b.1 f t)),lay1 (ren f t b) c.2.2)
theorem renG_fold (f t:Tx):∀ (ls:List Bx) (c:Int×Bool×List Bx),(ls.foldl (renG f t) c).1=c.1+((cntM f ls:Nat):Int)/\(ls.foldl (renG f t) c).2.2.Perm (c.2.2++ls.map (ren f t)) /\
      (c.2.2.Pairwise (λa b=>a.1<b.1)->(ls.foldl (renG f t) c).2.1=false->(ls.foldl (renG f t) c).2.2.Pairwise (λa b=>a.1<b.1)) /\
      ((ls.foldl (renG f t) c).2.1=true->c.2.1=true\/¬ ((c.2.2++ls.map (ren f t)).map (·.1)).Nodup)
  | [],c=>⟨by simp [cntM],by simp,λh _=>h,λh=>.inl h⟩
  | a::l,c=>by
    obtain ⟨h1,h2,h3,h4⟩:=renG_fold f t l (renG f t c a)
    have hmono:∀ (l:List Bx) (c:Int×Bool×List Bx),c.2.1=true->(l.foldl (renG f t) c).2.1=true:=λl=>by
      induction l with
      | nil=>exact λc h=>h
      | cons x t' ih=>exact λc h=>ih _ (by simp [renG,h])
    simp only [List.foldl_cons]
    have hp:((lay1 (ren f t a) c.2.2)++l.map (ren f t)).Perm (c.2.2++(a::l).map (ren f t)):=by
      refine ((lay1_perm (ren f t a) c.2.2).append_right _).trans ?_
      rw [List.map_cons,List.cons_append]
      exact List.perm_middle.symm
    refine ⟨?_,h2.trans hp,λhc hk=>?_,λhk=>?_⟩
    . rw [h1]
      unfold renG cntM
      rw [List.countP_cons]
      simp only
      split <;> simp <;> omega
    . have hk1:(renG f t c a).2.1=false:=by
        cases hq:(renG f t c a).2.1 with
        | false=>rfl
        | true=>rw [hmono l _ hq] at hk;cases hk
      refine h3 (lay1_rise _ _ hc λx hx e=>?_) hk
      simp only [renG,Bool.or_eq_false_iff,List.any_eq_false,dTe] at hk1
      exact hk1.2 x hx e
    . rcases h4 hk with h | h
      . simp only [renG,Bool.or_eq_true,List.any_eq_true,dTe] at h
        rcases h with h | ⟨x,hx,e⟩
        . exact .inl h
        . right
          intro hnd
          rw [List.map_append,List.map_cons,List.map_cons,List.nodup_append] at hnd
          exact hnd.2.2 x.1 (List.mem_map_of_mem hx) _ (List.mem_cons_self ..) e
      . right
        intro hnd
        exact h ((hp.map (·.1)).nodup_iff.2 hnd)
theorem moves_eq (nm frm:Tx):moves nm frm=(decide (nm=frm)||((decide (((frm.length:Nat):Int)<((nm.length:Nat):Int))&&decide (nm.take frm.length=frm))&&decide (nm.getD frm.length 0=47))):=by
 unfold moves pfx
 by_cases h:nm=frm
 ·simp [h]
 ·rw [dFf h,Bool.false_or,Bool.false_or]
  rw [Bool.eq_iff_iff]
  simp only [bAt,dTe,List.length_append,List.length_singleton]
  constructor
  ·rintro ⟨h1,h2⟩
   have h3:frm.length<nm.length:=by omega
   rw [List.take_succ_eq_append_getElem h3] at h2
   obtain ⟨h4,h5⟩:=List.append_inj' h2 rfl
   simp only [List.cons.injEq,and_true] at h5
   refine ⟨⟨by omega,h4⟩,?_⟩
   rw [List.getD_eq_getElem?_getD,List.getElem?_eq_getElem h3]
   exact h5
  ·rintro ⟨⟨h1,h2⟩,h3⟩
   have h4:frm.length<nm.length:=by omega
   refine ⟨by omega,?_⟩
   rw [List.take_succ_eq_append_getElem h4,h2]
   rw [List.getD_eq_getElem?_getD,List.getElem?_eq_getElem h4] at h3
   simp only [Option.getD_some] at h3
   rw [h3]
theorem L65_1_eq (ly:List Ur) (at' n:Int) (i:Int) (known:Bool) (d:Dd) (u:Usr) (out:List Bx) (b:Bx) (hl:out.length<=1000) :
  L65_1 ((true,at',(),(),(),n,known,i,(),(0:Int),()),((ly,()),d,u,out,bxOf b,()))=some ((true,at',(),(),(),n,(known||out.any λx=>decide (x.1=b.1)),i,(),()),((ly,()),d,u,out,bxOf b,())):=by
 obtain ⟨dd,du,db,dt,uid,how,fl,ds,de,by',⟨⟩⟩:=d
 obtain ⟨un,uv,ls,⟨⟩⟩:=u
 obtain ⟨bn,bv,bx,bl,⟨⟩⟩:=b
 have hF:=FUEL_big
 unfold L65_1 bxOf
 refine (walk_list (f:=B65_1) (λ(k:Bool) j=>((true,at',(),(),(),n,k,i,(),(j:Int),()),((ly,()),(dd,du,db,dt,uid,how,fl,ds,de,by',()),(un,uv,ls,()),out,(bn,bv,bx,bl,()),()))) out
  (λa k=>.inl (k||decide (a.1=bn))) (λk=>((true,at',(),(),(),n,k,i,(),()),((ly,()),(dd,du,db,dt,uid,how,fl,ds,de,by',()),(un,uv,ls,()),out,(bn,bv,bx,bl,()),())))
  (λk j a hj ha=>?_) (λk=>?_) (by omega) (b:=known)).trans ?_
 ·have d0:decide ((j:Int)<((out.length:Nat):Int))=true:=dTt (by omega)
  have d1:decide ((0:Int)<=(j:Int))=true:=dTt (by omega)
  have w1:w64 ((j:Int)+1)=((j+1:Nat):Int):=by rw [w64_id (by omega) (by omega)];rfl
  simp only [B65_1,d0,d1,bAs,Bool.true_or,cTt,nCt,ha nob,oBs,w1]
 ·simp only [B65_1,Int.lt_irrefl,decide_false,cFf]
 ·rw [foldS_any (λ(a:Bx)=>decide (a.1=bn))]
theorem foldS_guard {α β τ:Type} (q:α->Bool) (g:β->α->β) (r:τ) (fin:β->τ):∀ (l:List α) (b:β),foldS (λa b=>if q a=true then (.inl (g b a):β⊕τ) else .inr r) fin b l=if l.all q=true then fin (l.foldl g b) else r
 | [],_=>rfl
 | a::t,b=>by
  have ih:=foldS_guard q g r fin t
  simp only [foldS,List.all_cons,List.foldl_cons]
  rcases Bool.eq_false_or_eq_true (q a) with hq | hq
  ·simp only [hq,↓reduceIte,ih,Bool.true_and]
  ·simp only [hq,Bool.false_eq_true,↓reduceIte,Bool.false_and]
abbrev R65:Type:=(((Bool×Int×Unit×Unit×Int×Bool×Unit)×(((List Ur)×Unit)×(Tx×Int×(List Bx)×Unit)×(List Bx)×Unit))⊕((Bool×Unit×Unit×Unit)×(((List Ur)×Unit)×Unit)))
theorem L65_0_eq (ly:List Ur) (at':Int) (d:Dd) (un:Tx) (uv:Int) (ls:List Bx) (hl:ls.length<=6) (hn:∀ b∈ls,rightB b.1=true) (h2:d.2.2.1.length<=24) (h3:d.2.2.2.1.length<=1050000) :
  L65_0 ((true,at',(),(),(),(0:Int),false,(0:Int),()),((ly,()),d,(un,uv,ls,()),([]:List Bx),())) =
   some (if allR d.2.2.1 d.2.2.2.1 ls=true then (.inl ((true,at',(),(),(ls.foldl (renG d.2.2.1 d.2.2.2.1) (0,false,[])).1,(ls.foldl (renG d.2.2.1 d.2.2.2.1) (0,false,[])).2.1,()),((ly,()),(un,uv,ls,()),(ls.foldl (renG d.2.2.1 d.2.2.2.1) (0,false,[])).2.2,())):R65) else .inr ((true,(),(),()),((ly,()),()))):=by
 obtain ⟨dd,du,db,dt,uid,how,fl,ds,de,by',⟨⟩⟩:=d
 simp only at h2 h3 ⊢
 have hF:=FUEL_big
 unfold L65_0
 refine (walk_listI (f:=B65_0) (λ(c:Int×Bool×List Bx) i=>((true,at',(),(),(),c.1,c.2.1,(i:Int),()),((ly,()),(dd,du,db,dt,uid,how,fl,ds,de,by',()),(un,uv,ls,()),c.2.2,()))) ls
  (λa c=>if rightB (undr a.1 db dt)=true then .inl (renG db dt c a) else .inr (.inr ((true,(),(),()),((ly,()),())))) (λc=>(.inl ((true,at',(),(),c.1,c.2.1,()),((ly,()),(un,uv,ls,()),c.2.2,())):R65))
  (λc i=>0<=c.1/\c.1<=i/\c.2.2.length<=i) (λc i a hI hi ha=>?_) (λc _=>?_) (by omega) (b:=(0,false,[])) ⟨Int.le_refl _,Int.le_refl _,Nat.le_refl _⟩).trans ?_
 ·obtain ⟨n,kn,out⟩:=c
  obtain ⟨i1,i2,i3⟩:=hI
  simp only at i1 i2 i3
  have d0:decide ((i:Int)<((ls.length:Nat):Int))=true:=dTt (by omega)
  have d1:decide ((0:Int)<=(i:Int))=true:=dTt (by omega)
  have w1:w64 ((i:Int)+1)=((i+1:Nat):Int):=by rw [w64_id (by omega) (by omega)];rfl
  have w2:w64 (n+1)=n+1:=w64_id (by omega) (by omega)
  obtain ⟨bn,bv,bx,bl,⟨⟩⟩:=a
  have ha':ls.getD i (([]:List UInt8),((0:Int),((0:Int),(([]:(List Ltr)),()))))=(bn,bv,bx,bl,()):=ha nob
  have hm:(bn,bv,bx,bl,())∈ls:=by
   have:=ha nob
   rw [List.getD_eq_getElem?_getD,List.getElem?_eq_getElem hi] at this
   rw [<- this]
   exact List.getElem_mem hi
  have hbn:bn.length<=24:=name_le (hn _ hm)
  have hud:(undr bn db dt).length<=1050024:=by
   unfold undr
   split
   ·rw [List.length_append,List.length_drop];omega
   ·omega
  have e33:=F33_eq (undr bn db dt) (by omega)
  have e64:=λnm:Tx=>F64_eq out (nm,(bv,(bx,(bl,())))) (by omega)
  have e651:=λ(m:Int) (nm:Tx)=>L65_1_eq ly at' m (i:Int) kn (dd,du,db,dt,uid,how,fl,ds,de,by',()) (un,uv,ls,()) out (nm,(bv,(bx,(bl,())))) (by omega)
  simp only [bxOf] at e64 e651
  have q1:((decide ((0:Int)<=((db.length:Nat):Int))&&decide (((db.length:Nat):Int)<=((bn.length:Nat):Int)))||(!(decide (((db.length:Nat):Int)<((bn.length:Nat):Int))&&(!(decide (bn=db))))))=true:=by
   rw [dTt (show (0:Int)<=((db.length:Nat):Int) by omega)]
   by_cases h:((db.length:Nat):Int)<((bn.length:Nat):Int)
   ·rw [dTt (show ((db.length:Nat):Int)<=((bn.length:Nat):Int) by omega)];rfl
   ·rw [dFf h];simp
  have q2:((decide ((0:Int)<=((db.length:Nat):Int))&&decide (((db.length:Nat):Int)<((bn.length:Nat):Int)))||(!((decide (((db.length:Nat):Int)<((bn.length:Nat):Int))&&decide (bn.take db.length=db))&&(!(decide (bn=db))))))=true:=by
   rw [dTt (show (0:Int)<=((db.length:Nat):Int) by omega)]
   cases decide (((db.length:Nat):Int)<((bn.length:Nat):Int)) <;> simp
  have hmv:=moves_eq bn db
  cases hmo:moves bn db with
  | false =>
   rw [hmo] at hmv
   have hu:undr bn db dt=bn:=by unfold undr;rw [hmo];rfl
   rw [hu] at e33
   cases hr:rightB bn with
   | false =>
    right
    rw [hr] at e33
    refine ⟨_,by rw [hu,hr,if_neg (by simp)],?_⟩
    simp only [B65_0,d0,d1,bAs,cTt,nCt,ha',oBs,q1,q2,<- hmv,cFf,e33,Bool.not_false]
   | true =>
    left
    rw [hr] at e33
    refine ⟨_,by rw [hu,hr,if_pos rfl],?_,?_⟩
    ·simp only [renG,hmo,Bool.false_eq_true,↓reduceIte,lay1_len]
     omega
    ·simp only [B65_0,d0,d1,bAs,cTt,nCt,ha',oBs,q1,q2,<- hmv,cFf,e33,Bool.not_true,e651,e64,w1,renG,hmo,hu,ren,Bool.false_eq_true,↓reduceIte]
  | true =>
   rw [hmo] at hmv
   have hle:db.length<=bn.length:=by
    unfold moves at hmo
    rw [Bool.or_eq_true,dTe] at hmo
    rcases hmo with h | h
    ·rw [h];exact Nat.le_refl _
    ·have:=pfx_le h
     rw [List.length_append] at this
     omega
   have hu:undr bn db dt=dt++bn.drop db.length:=by unfold undr;rw [hmo];rfl
   have q3:((decide ((0:Int)<=((db.length:Nat):Int))&&decide (((db.length:Nat):Int)<=((bn.length:Nat):Int)))&&decide (((bn.length:Nat):Int)<=((bn.length:Nat):Int)))=true:=by
    rw [dTt (show (0:Int)<=((db.length:Nat):Int) by omega),dTt (show ((db.length:Nat):Int)<=((bn.length:Nat):Int) by omega),dTt (Int.le_refl _)]
    rfl
   have tk:(bn.drop db.length).take (bn.length-db.length)=bn.drop db.length:=List.take_of_length_le (by rw [List.length_drop];omega)
   have ft:fits (dt.length+(bn.drop db.length).length)=true:=dTt (by rw [List.length_drop];omega)
   rw [hu] at e33
   cases hr:rightB (dt++bn.drop db.length) with
   | false =>
    right
    rw [hr] at e33
    refine ⟨_,by rw [hu,hr,if_neg (by simp)],?_⟩
    simp only [B65_0,d0,d1,bAs,cTt,nCt,ha',oBs,q1,q2,<- hmv,q3,tk,ft,e33,Bool.not_false]
   | true =>
    left
    rw [hr] at e33
    refine ⟨_,by rw [hu,hr,if_pos rfl],?_,?_⟩
    ·simp only [renG,hmo,↓reduceIte,lay1_len]
     omega
    ·simp only [B65_0,d0,d1,bAs,cTt,nCt,ha',oBs,q1,q2,<- hmv,q3,tk,ft,cFf,e33,Bool.not_true,e651,e64,w1,w2,renG,hmo,hu,ren,↓reduceIte]
 ·simp only [B65_0,Int.lt_irrefl,decide_false,cFf]
 ·rw [foldS_guard (λa=>rightB (undr a.1 db dt)) (renG db dt)]
  rfl
theorem ren_both {u:Usr} (G:Fine u) (d:Dd) (h3:d.2.2.2.1.length<=1050000) (hh:hasB u.2.2.1 d.2.2.1=true) (ly:List Ur) (k:Nat) (hk:k<ly.length) (hly:ly.length<=1000) (he:ly.getD k nou=(u.1,(u.2.1,(u.2.2.1,())))) :
  ∃ R:Usr×Int×Int×Unit,F77 ((u,d,()),())=some (R,())/\(R.2.2.1=0->Fine R.1/\R.1.1=u.1) /\
   F65 ((true,(k:Int),d,()),((ly,()),()))=some ((if R.2.2.1=0 then (R.2.1,0,()) else (0,R.2.2.1,())),(((if R.2.2.1=0 then ly.take k++[(R.1.1,(R.1.2.1,(R.1.2.2.1,())))]++ly.drop (k+1) else ly),()),())):=by
 obtain ⟨un,uv,ls,⟨⟩⟩:=u
 obtain ⟨lo,e39,_,_,_,h5,_⟩:=F39_eq (un,uv,ls,()) d.2.2.1 (Nat.le_trans G.good.few (by omega)) G.good.rise
 obtain ⟨R0,hR0,hR1⟩:=F77_ex G d (by omega)
 refine ⟨R0,hR0,hR1,?_⟩
 obtain ⟨dd,du,db,dt,uid,how,fl,ds,de,by',⟨⟩⟩:=d
 have g1:=G.good.few
 have g5:=G.names
 simp only at h3 e39 h5 g1 g5 hh he
 rw [hh] at e39
 obtain ⟨k1,k2⟩:=h5 hh
 have hdb:db.length<=24:=by
  have:=name_le (g5 _ (getD_mem k1))
  rw [k2] at this
  exact this
 have d0:decide ((k:Int)<((ly.length:Nat):Int))=true:=dTt (by omega)
 have d1:decide ((0:Int)<=(k:Int))=true:=dTt (by omega)
 have hg:ly.getD k (([]:Tx),((0:Int),(([]:(List Bx)),())))=(un,(uv,(ls,()))):=he
 by_cases hin:db=inbx
 ·have hd:decide (db=([73,78,66,79,88]:List UInt8))=true:=dTt hin
  have:R0=((un,uv,ls,()),0,13,()):=by
   have:F77 (((un,uv,ls,()),(dd,du,db,dt,uid,how,fl,ds,de,by',()),()),())=some (((un,uv,ls,()),0,13,()),()):=by
    simp only [F77,e39,oBs,Bool.not_true,cFf,hd,cTt]
   rw [this] at hR0
   cases hR0
   rfl
  subst this
  simp only [F65,cTt,d0,d1,bAs,nCt,hg,oBs,hd]
  rfl
 ·have hdi:decide (db=([73,78,66,79,88]:List UInt8))=false:=dFf hin
  have e30:=F30_eq ls (by omega)
  have e65:=L65_0_eq ly (k:Int) (dd,du,db,dt,uid,how,fl,ds,de,by',()) un uv ls g1 g5 hdb h3
  simp only at e65
  obtain ⟨r,e0,hr⟩:=L77_0_eq un uv (dd,du,db,dt,uid,how,fl,ds,de,by',()) ls [] g1 g5 (by simp only;omega) (by simp only;omega)
  cases r with
  | inr q =>
   obtain ⟨⟨cur,rfl⟩,hal⟩:=hr
   simp only at hal
   have:R0=((un,uv,cur,()),0,6,()):=by
    have:F77 (((un,uv,ls,()),(dd,du,db,dt,uid,how,fl,ds,de,by',()),()),())=some (((un,uv,cur,()),0,6,()),()):=by
     simp only [F77,e39,oBs,Bool.not_true,cFf,hdi,e30,e0]
    rw [this] at hR0
    cases hR0
    rfl
   subst this
   rw [hal,if_neg (by simp)] at e65
   simp only [F65,cTt,d0,d1,bAs,nCt,hg,oBs,hdi,cFf,e65]
   rfl
  | inl q =>
   obtain ⟨rfl,hal⟩:=hr
   simp only at hal
   rw [hal,if_pos rfl] at e65
   have hp:(srtB (ls.map (ren db dt))).Perm (ls.map (ren db dt)):=srtBy_perm _ _ _
   have hs:(srtB (ls.map (ren db dt))).Pairwise λa b=>¬ b.1<a.1:=srtBy_sorted _ _ _
   have hlen:(srtB (ls.map (ren db dt))).length=ls.length:=by rw [hp.length_eq,List.length_map]
   have hok:srtBOK (ls.map (ren db dt))=true:=by
    unfold srtBOK
    simp only [List.length_map,bAt,dTe,Bool.not_eq_true',List.isEmpty_eq_false_iff]
    refine ⟨by omega,λh=>?_⟩
    have:=congrArg List.length h
    rw [List.length_map,List.length_nil] at this
    omega
   obtain ⟨S,hS⟩:∃ S,srtB (ls.map (ren db dt))=S:=⟨_,rfl⟩
   rw [hS] at hp hs hlen
   obtain ⟨f1,f2,f3,f4⟩:=renG_fold db dt ls (0,false,[])
   obtain ⟨⟨n',kn,out⟩,hfo⟩:∃ c,ls.foldl (renG db dt) (0,false,[])=c:=⟨_,rfl⟩
   rw [hfo] at e65 f1 f2 f3 f4
   simp only [List.nil_append,Int.zero_add] at f1 f2 f3 f4
   subst f1
   obtain ⟨r,e1,hr⟩:=L77_1_eq un uv ((cntM db ls:Nat):Int) S [] (by omega) (by omega)
   have c1:decide ((1:Int)<=((S.length:Nat):Int))=true:=dTt (by omega)
   cases r with
   | inr q =>
    obtain ⟨rfl,j,hj,hje⟩:=hr
    have hkn:kn=true:=by
     cases kn with
     | true=>rfl
     | false =>
      have hrise:=f3 List.Pairwise.nil rfl
      have hnd:(out.map (·.1)).Nodup:=by
       rw [List.Nodup,List.pairwise_map]
       exact hrise.imp λh e=>absurd (e ▸ h) (List.lt_irrefl _)
      have hps:=((f2.trans hp.symm).map (·.1)).nodup_iff.1 hnd
      rw [List.Nodup,List.pairwise_map] at hps
      rw [getDb_eq (by omega),getDb_eq hj] at hje
      exact absurd hje (List.pairwise_iff_getElem.1 hps j (j+1) (by omega) hj (by omega))
    subst hkn
    have:R0=((un,uv,S,()),0,10,()):=by
     have:F77 (((un,uv,ls,()),(dd,du,db,dt,uid,how,fl,ds,de,by',()),()),())=some (((un,uv,S,()),0,10,()),()):=by
      simp only [F77,e39,oBs,Bool.not_true,cFf,hdi,e30,e0,hok,cTt,hS,c1,Int.le_refl,dTr,bAs,nCt,e1]
     rw [this] at hR0
     cases hR0
     rfl
    subst this
    simp only [F65,cTt,d0,d1,bAs,nCt,hg,oBs,hdi,cFf,e65]
    rfl
   | inl q =>
    obtain ⟨rfl,hd⟩:=hr
    have hrise:S.Pairwise λa b=>a.1<b.1:=rise_of λk hk=>by
     have h1:=List.pairwise_iff_getElem.1 hs k (k+1) (by omega) hk (by omega)
     have h2:=hd k hk
     rw [getDb_eq (by omega),getDb_eq hk] at h2 ⊢
     exact tx_total h1 λe=>h2 e.symm
    have hnd:((ls.map (ren db dt)).map (·.1)).Nodup:=by
     refine (hp.map (·.1)).nodup_iff.1 ?_
     rw [List.Nodup,List.pairwise_map]
     exact hrise.imp λh e=>absurd (e ▸ h) (List.lt_irrefl _)
    have hkn:kn=false:=by
     cases kn with
     | false=>rfl
     | true =>
      rcases f4 rfl with h | h
      ·cases h
      ·exact absurd hnd h
    subst hkn
    have hout:out=S:=rise_eq (f2.trans hp.symm) (f3 List.Pairwise.nil rfl) hrise
    subst hout
    have:R0=((un,uv,out,()),((cntM db ls:Nat):Int),0,()):=by
     have:F77 (((un,uv,ls,()),(dd,du,db,dt,uid,how,fl,ds,de,by',()),()),())=some (((un,uv,out,()),((cntM db ls:Nat):Int),0,()),()):=by
      simp only [F77,e39,oBs,Bool.not_true,cFf,hdi,e30,e0,hok,cTt,hS,c1,Int.le_refl,dTr,bAs,nCt,e1]
     rw [this] at hR0
     cases hR0
     rfl
    subst this
    have w1:w64 ((k:Int)+1)=((k+1:Nat):Int):=by rw [w64_id (by omega) (by omega)];rfl
    have e63:=F63_eq ly [(un,(uv,(out,())))] k (k+1) hly (by simp) (by omega) (by omega)
    simp only [F65,cTt,d0,d1,bAs,nCt,hg,oBs,hdi,cFf,e65,w1,e63]
    rfl
structure RelS (m:Mp) (ly:List Ur):Prop where
 fine:FineM m
 rise:ly.Pairwise (λa b=>a.1<b.1)
 len:m.length=ly.length
 same:∀ k:Tx,mapGet .str m k=ly.find? (λu=>decide (u.1=k))
theorem RelS.nil:RelS [] []:=⟨FineM.nil,List.Pairwise.nil,rfl,λ_=>rfl⟩
theorem RelS.few {m:Mp} {ly:List Ur} (R:RelS m ly):ly.length<=16:=R.len ▸ R.fine.few
theorem fnd_lt {A:List Ur} {nm:Tx} (h:∀ u∈A,u.1<nm):A.find? (λu=>decide (u.1=nm))=none:=by
 rw [List.find?_eq_none]
 intro u hu he
 have:=h u hu
 rw [of_decide_eq_true he] at this
 exact List.lt_irrefl _ this
theorem fnd_gt {A:List Ur} {nm:Tx} (h:∀ u∈A,nm<u.1):A.find? (λu=>decide (u.1=nm))=none:=by
 rw [List.find?_eq_none]
 intro u hu he
 have:=h u hu
 rw [of_decide_eq_true he] at this
 exact List.lt_irrefl _ this
theorem place_facts {ly:List Ur} (hr:ly.Pairwise (λa b=>a.1<b.1)) {nm:Tx} {lo:Nat} (hl:lo<=ly.length) (h3:∀ k,k<lo->(ly.getD k nou).1<nm) (h4:lo<ly.length->¬ (ly.getD lo nou).1<nm) :
  (∀ u∈ly.take lo,u.1<nm) /\
  (((decide (lo<ly.length)&&decide ((ly.getD lo nou).1=nm))=true/\lo<ly.length/\(ly.getD lo nou).1=nm/\∀ u∈ly.drop (lo+1),nm<u.1) \/
   ((decide (lo<ly.length)&&decide ((ly.getD lo nou).1=nm))=false/\∀ u∈ly.drop lo,nm<u.1)):=by
 refine ⟨λu hu=>?_,?_⟩
 ·obtain ⟨i,hi,rfl⟩:=List.mem_take_iff_getElem.1 hu
  have:=h3 i (by omega)
  rwa [getDu_eq (by omega)] at this
 ·by_cases h:lo<ly.length
  ·have hd:ly.drop lo=ly[lo]::ly.drop (lo+1):=List.drop_eq_getElem_cons h
   have hp:(ly.drop lo).Pairwise (λa b=>a.1<b.1):=hr.sublist (List.drop_sublist _ _)
   rw [hd] at hp
   obtain ⟨p1,p2⟩:=List.pairwise_cons.1 hp
   have hge:=h4 h
   by_cases he:(ly.getD lo nou).1=nm
   ·left
    refine ⟨by rw [dTt h,dTt he];rfl,h,he,λu hu=>?_⟩
    rw [getDu_eq h] at he
    rw [<- he]
    exact p1 u hu
   ·right
    refine ⟨by rw [dFf he,Bool.and_false],λu hu=>?_⟩
    have hlt:=tx_total hge he
    rw [getDu_eq h] at hlt
    rw [hd] at hu
    rcases List.mem_cons.1 hu with rfl | hu
    ·exact hlt
    ·exact List.lt_trans hlt (p1 u hu)
  ·right
   refine ⟨by simp [h],λu hu=>?_⟩
   rw [List.drop_eq_nil_of_le (by omega)] at hu
   cases hu
structure Place (ly:List Ur) (nm:Tx) (lo:Nat) (there:Bool):Prop where
 f41:F41 ((true,nm,()),((ly,()),()))=some (((lo:Int),there,()),((ly,()),()))
 le:lo<=ly.length
 low:∀ u∈ly.take lo,u.1<nm
 yes:there=true->lo<ly.length/\(ly.getD lo nou).1=nm/\∀ u∈ly.drop (lo+1),nm<u.1
 no:there=false->∀ u∈ly.drop lo,nm<u.1
theorem RelS.place {m:Mp} {ly:List Ur} (R:RelS m ly) (nm:Tx):∃ lo there,Place ly nm lo there:=by
 have hf:=R.few
 obtain ⟨lo,h1,h2,h3,h4⟩:=F41_eq ly nm (by omega)
 obtain ⟨k1,k2⟩:=place_facts R.rise h2 h3 h4
 rcases k2 with ⟨k2,k3⟩ | ⟨k2,k3⟩
 ·rw [k2] at h1
  exact ⟨lo,true,h1,h2,k1,λ_=>k3,nofun⟩
 ·rw [k2] at h1
  exact ⟨lo,false,h1,h2,k1,nofun,λ_=>k3⟩
theorem Place.get {m:Mp} {ly:List Ur} (R:RelS m ly) {nm:Tx} {lo:Nat} {there:Bool} (P:Place ly nm lo there):mapGet .str m nm=if there=true then some (ly.getD lo nou) else none:=by
 rw [R.same]
 have e:ly.find? (λu=>decide (u.1=nm))=(ly.take lo++ly.drop lo).find? (λu=>decide (u.1=nm)):=by rw [List.take_append_drop]
 rw [e,List.find?_append,fnd_lt P.low,Option.none_or]
 cases there with
 | true =>
  obtain ⟨h1,h2,h3⟩:=P.yes rfl
  rw [List.drop_eq_getElem_cons h1,List.find?_cons]
  rw [getDu_eq h1] at h2 ⊢
  rw [dTt h2]
  rfl
 | false =>
  rw [fnd_gt (P.no rfl)]
  rfl
theorem mid_rise {A B:List Ur} {u:Ur} (hA:A.Pairwise (λa b=>a.1<b.1)) (hB:B.Pairwise (λa b=>a.1<b.1)) (h1:∀ x∈A,x.1<u.1) (h2:∀ x∈B,u.1<x.1):(A++[u]++B).Pairwise (λa b=>a.1<b.1):=by
 rw [List.pairwise_append]
 refine ⟨?_,hB,λa ha b hb=>?_⟩
 ·rw [List.pairwise_append]
  refine ⟨hA,List.pairwise_singleton _ _,λa ha b hb=>?_⟩
  rw [List.mem_singleton.1 hb]
  exact h1 a ha
 ·rcases List.mem_append.1 ha with ha | ha
  ·exact List.lt_trans (h1 a ha) (h2 b hb)
  ·rw [List.mem_singleton.1 ha]
   exact h2 b hb
theorem fnd_mid {A B:List Ur} {u:Ur} (h1:∀ x∈A,x.1<u.1) (k:Tx):(A++[u]++B).find? (λx=>decide (x.1=k))=if k=u.1 then some u else (A++B).find? (λx=>decide (x.1=k)):=by
 rw [List.find?_append,List.find?_append,List.find?_append]
 by_cases h:k=u.1
 ·subst h
  rw [if_pos rfl,fnd_lt h1,Option.none_or,List.find?_cons,dTt rfl]
  rfl
 ·rw [if_neg h,List.find?_cons,dFf (λe=>h e.symm),List.find?_nil,Option.or_none]
theorem RelS.put {m:Mp} {ly A B:List Ur} {u:Usr} (R:RelS m ly) (F2:FineM (mapSet .str m u.1 (u.1,(u.2.1,(u.2.2.1,()))))) (hlen:(mapSet .str m u.1 (u.1,(u.2.1,(u.2.2.1,())))).length=(A++B).length+1)
  (hA:A.Pairwise (λa b=>a.1<b.1)) (hB:B.Pairwise (λa b=>a.1<b.1)) (h1:∀ x∈A,x.1<u.1) (h2:∀ x∈B,u.1<x.1)
  (hs:∀ k,k≠u.1->ly.find? (λx=>decide (x.1=k))=(A++B).find? (λx=>decide (x.1=k))) :
  RelS (mapSet .str m u.1 (u.1,(u.2.1,(u.2.2.1,())))) (A++[(u.1,(u.2.1,(u.2.2.1,())))]++B) where
 fine:=F2
 rise:=mid_rise hA hB h1 h2
 len:=by
  rw [hlen]
  simp only [List.length_append,List.length_singleton]
  omega
 same:=λk=>by
  rw [mapGet_set KE_str R.fine.nodup,fnd_mid (u:=(u.1,(u.2.1,(u.2.2.1,())))) h1]
  cases hq:keyEq .str k u.1 with
  | true =>
   have:k=u.1:=(KE_str k u.1).1 hq
   rw [if_pos this,cTt]
  | false =>
   have:k≠u.1:=λe=>by rw [(KE_str k u.1).2 e] at hq;cases hq
   rw [if_neg this,cFf,R.same,hs k this]
theorem RelS.sub {m:Mp} {ly:List Ur} (R:RelS m ly) (lo:Nat):(ly.take lo).Pairwise (λa b=>a.1<b.1)/\(ly.drop lo).Pairwise (λa b=>a.1<b.1) :=
 ⟨R.rise.sublist (List.take_sublist _ _),R.rise.sublist (List.drop_sublist _ _)⟩
theorem RelS.ins {m:Mp} {ly:List Ur} {u:Usr} (R:RelS m ly) {lo:Nat} (P:Place ly u.1 lo false) (hu:Fine u) (hf:m.length<16) :
  RelS (mapSet .str m u.1 (u.1,(u.2.1,(u.2.2.1,())))) (ly.take lo++[(u.1,(u.2.1,(u.2.2.1,())))]++ly.drop lo):=by
 have hg:=P.get R
 rw [if_neg (by simp)] at hg
 have hl:(mapSet .str m u.1 (u.1,(u.2.1,(u.2.2.1,())))).length=m.length+1:=by
  rw [mapSet_len KE_str,hg];rfl
 refine R.put (R.fine.set (by omega) hu rfl) ?_ (R.sub lo).1 (R.sub lo).2 P.low (P.no rfl) λk _=>by rw [List.take_append_drop]
 rw [hl,List.take_append_drop,R.len]
theorem fnd_skip {ly:List Ur} {lo:Nat} {nm k:Tx} (h:lo<ly.length) (he:(ly.getD lo nou).1=nm) (hk:k≠nm):ly.find? (λx=>decide (x.1=k))=(ly.take lo++ly.drop (lo+1)).find? (λx=>decide (x.1=k)):=by
 have e:ly.find? (λx=>decide (x.1=k))=(ly.take lo++ly.drop lo).find? (λx=>decide (x.1=k)):=by rw [List.take_append_drop]
 rw [e,List.find?_append,List.find?_append,List.drop_eq_getElem_cons h,List.find?_cons]
 rw [getDu_eq h] at he
 rw [dFf (λe=>hk (e.symm.trans he))]
theorem RelS.swap {m:Mp} {ly:List Ur} {u:Usr} (R:RelS m ly) {lo:Nat} (P:Place ly u.1 lo true) (hu:Fine u) :
  RelS (mapSet .str m u.1 (u.1,(u.2.1,(u.2.2.1,())))) (ly.take lo++[(u.1,(u.2.1,(u.2.2.1,())))]++ly.drop (lo+1)):=by
 have hg:=P.get R
 rw [if_pos rfl] at hg
 obtain ⟨h1,h2,h3⟩:=P.yes rfl
 have hl:(mapSet .str m u.1 (u.1,(u.2.1,(u.2.2.1,())))).length=m.length:=by
  rw [mapSet_len KE_str,hg];rfl
 have hf:=R.few
 have hle:=R.len
 refine R.put (R.fine.set (by omega) hu rfl) ?_ (R.sub lo).1 (R.sub (lo+1)).2 P.low h3 λk hk=>fnd_skip h1 h2 hk
 rw [hl,List.length_append,List.length_take,List.length_drop]
 omega
theorem RelS.del {m:Mp} {ly:List Ur} {nm:Tx} (R:RelS m ly) {lo:Nat} (P:Place ly nm lo true):RelS (mapDel .str m nm) (ly.take lo++ly.drop (lo+1)) where
 fine:=R.fine.del nm
 rise:=by
  have hs:(ly.take lo++ly.drop (lo+1)).Sublist ly:=by
   have h:(ly.take lo++ly.drop (lo+1)).Sublist (ly.take lo++ly.drop lo):=List.Sublist.append_left (List.drop_sublist_drop_left _ (Nat.le_succ lo)) _
   rw [List.take_append_drop] at h
   exact h
  exact R.rise.sublist hs
 len:=by
  have hg:=P.get R
  rw [if_pos rfl] at hg
  have:=mapDel_len KE_str hg
  have hle:=R.len
  obtain ⟨h1,-,-⟩:=P.yes rfl
  rw [List.length_append,List.length_take,List.length_drop]
  omega
 same:=λk=>by
  obtain ⟨h1,h2,h3⟩:=P.yes rfl
  rw [mapGet_del KE_str R.fine.nodup]
  cases hq:keyEq .str k nm with
  | true =>
   have:k=nm:=(KE_str k nm).1 hq
   subst this
   rw [cTt,List.find?_append,fnd_lt P.low,Option.none_or,fnd_gt h3]
  | false =>
   have:k≠nm:=λe=>by rw [(KE_str k nm).2 e] at hq;cases hq
   rw [cFf,R.same,fnd_skip h1 h2 this]
theorem F61_both {m:Mp} {ly:List Ur} (R:RelS m ly) {u:Usr} (hu:Fine u):∃ ly',F61 ((true,u,()),((ly,()),()))=some ((come m u).1,((ly',()),()))/\RelS (come m u).2 ly'/\((come m u).1≠0->(come m u).2=m/\ly'=ly):=by
 obtain ⟨lo,there,P⟩:=R.place u.1
 have hf:=R.few
 have hg:=P.get R
 have hle:=R.len
 obtain ⟨un,uv,ls,⟨⟩⟩:=u
 unfold come
 have f41:=P.f41
 simp only at f41 hg P ⊢
 cases there with
 | true =>
  rw [if_pos rfl] at hg
  rw [hg]
  refine ⟨ly,?_,?_,?_⟩
  ·simp only [F61,f41,oBs,cTt,Option.isSome_some,↓reduceIte]
  ·simp only [Option.isSome_some,↓reduceIte];exact R
  ·simp
 | false =>
  rw [if_neg (by simp)] at hg
  rw [hg]
  simp only [Option.isSome_none,Bool.false_eq_true,↓reduceIte]
  by_cases h16:m.length=16
  ·rw [if_pos h16]
   refine ⟨ly,?_,R,λ_=>⟨rfl,rfl⟩⟩
   have c:decide ((16:Int)<=((ly.length:Nat):Int))=true:=dTt (by omega)
   simp only [F61,f41,oBs,cFf,cTt,c]
  ·rw [if_neg h16]
   have hf2:=R.fine.few
   have c:decide ((16:Int)<=((ly.length:Nat):Int))=false:=dFf (by omega)
   have e63:=F63_eq ly [(un,(uv,(ls,())))] lo lo (by omega) (by simp) P.le P.le
   refine ⟨ly.take lo++[(un,(uv,(ls,())))]++ly.drop lo,?_,?_,?_⟩
   ·simp only [F61,f41,oBs,cFf,cTt,c,e63]
   ·exact R.ins (u:=(un,uv,ls,())) P hu (by omega)
   ·simp
end Go.So
