/- Texts that the last one leans on, 8. -/
import Derived.Test.YtipfcejaekfogaaGreatDoorZG
import Derived.Shelf.Vars
namespace Go.So
open Go Go.Ev
set_option maxRecDepth 100000
def pfx (s p:Tx):Bool:=decide (p.length<=s.length)&&decide (s.take p.length=p)
theorem F153_eq (s p:Tx):F153 ((s,p,()),())=some (pfx s p,()):=by
 have e:decide (((p.length:Nat):Int)<=((s.length:Nat):Int))=decide (p.length<=s.length):=by rw [decide_eq_decide];omega
 have c1:decide ((0:Int)<=((p.length:Nat):Int))=true:=dTt (by omega)
 unfold pfx
 simp only [F153,e,c1,Bool.true_and,nCt]
 cases decide (p.length<=s.length) <;> simp
def moves (nm frm:Tx):Bool:=decide (nm=frm)||pfx nm (frm++[47])
def undr (nm frm tt:Tx):Tx:=if moves nm frm=true then tt++nm.drop frm.length else nm
theorem pfx_le {s p:Tx} (h:pfx s p=true):p.length<=s.length:=by
 unfold pfx at h
 simp only [bAt,dTe] at h
 exact h.1
theorem F102_eq (nm frm tt:Tx) (h1:nm.length<=1100000) (h2:frm.length<=1100000) (h3:tt.length<=1100000):F102 ((nm,frm,tt,()),())=some ((undr nm frm tt,moves nm frm,()),()):=by
 have f1:fits (frm.length+([47]:List UInt8).length)=true:=dTt (by simp;omega)
 have e135:F135 ((nm,frm++[47],()),())=some (pfx nm (frm++[47]),()):=by simp only [F135,F153_eq,oBs]
 have c1:decide ((0:Int)<=((frm.length:Nat):Int))=true:=dTt (by omega)
 have f2:fits (tt.length+(nm.drop frm.length).length)=true:=dTt (by rw [List.length_drop];omega)
 have t1:(nm.drop frm.length).take (nm.length-frm.length)=nm.drop frm.length:=List.take_of_length_le (by rw [List.length_drop];omega)
 unfold undr moves
 by_cases he:nm=frm
 ·subst he
  simp only [F102,f1,Bool.true_or,cTt,dTr,Bool.not_true,cFf,c1,Int.le_refl,bAs,nCt,t1,f2,↓reduceIte]
 ·cases hp:pfx nm (frm++[47]) with
  | false =>
   simp only [F102,f1,Bool.true_or,cTt,dFf he,Bool.not_false,e135,oBs,hp,cFf,Bool.or_self,Bool.false_eq_true,↓reduceIte]
  | true =>
   have hl:=pfx_le hp
   rw [List.length_append] at hl
   have c2:decide (((frm.length:Nat):Int)<=((nm.length:Nat):Int))=true:=dTt (by omega)
   simp only [F102,f1,Bool.true_or,cTt,dFf he,Bool.not_false,e135,oBs,hp,c1,c2,Int.le_refl,dTr,bAs,nCt,t1,f2,Bool.or_true,↓reduceIte]
def ren (frm tt:Tx) (b:Bx):Bx:=(undr b.1 frm tt,(b.2.1,(b.2.2.1,(b.2.2.2.1,()))))
abbrev R77:Type:=((Unit×Unit×Int×Unit)×((Tx×Int×Unit×Unit)×((Unit×Unit×Unit×Unit)×(List Bx×(List Bx×Unit)))))⊕((Unit×Unit×Unit×Unit)×((Tx×Int×Unit×Unit)×(List Bx×Unit)))
theorem L77_0_ex (un:Tx) (uv:Int) (d:Dd) (ls xs:List Bx) (hl:ls.length<=6) (hn:∀ b∈ls,rightB b.1=true) (h2:d.2.2.1.length<=1100000) (h3:d.2.2.2.1.length<=1100000) :
  ∃ r:R77,L77_0 (((),(),(),(0:Int),(),((ls.length:Nat):Int),(0:Int),()),((un,uv,(),()),d,((),(),(),()),ls,xs,()))=some r /\
   match r with
   | .inl q=>∃ n,q=(((),(),n,()),((un,uv,(),()),((),(),(),()),ls.map (ren d.2.2.1 d.2.2.2.1),xs,()))/\∀ b∈ls,rightB (undr b.1 d.2.2.1 d.2.2.2.1)=true
   | .inr q=>∃ cur,q=(((),(),(),()),((un,uv,(),()),cur,())):=by
 obtain ⟨dd,du,db,dt,uid,how,fl,ds,de,by',⟨⟩⟩:=d
 simp only at h2 h3 ⊢
 have hF:=FUEL_big
 unfold L77_0
 refine loop_ind (f:=B77_0) (λp=>∃ (i:Nat) (n:Int),i<=ls.length/\(∀ k,k<i->rightB (undr (ls.getD k nob).1 db dt)=true) /\
   p=(((),(),(),n,(),((ls.length:Nat):Int),(i:Int),()),((un,uv,(),()),(dd,du,db,dt,uid,how,fl,ds,de,by',()),((),(),(),()),(ls.take i).map (ren db dt)++ls.drop i,xs,())))
  (λp=>ls.length-p.1.2.2.2.2.2.2.1.toNat) _ ?_ ⟨0,0,Nat.zero_le _,λk hk=>absurd hk (Nat.not_lt_zero _),by simp⟩ (by simp only;omega)
 rintro p ⟨i,n,hi,hk,rfl⟩
 rcases Nat.lt_or_ge i ls.length with h | h
 ·have d0:decide ((i:Int)<((ls.length:Nat):Int))=true:=dTt (by omega)
  have d1:decide ((0:Int)<=(i:Int))=true:=dTt (by omega)
  have w1:w64 ((i:Int)+1)=((i+1:Nat):Int):=by rw [w64_id (by omega) (by omega)];rfl
  have hlen:((ls.take i).map (ren db dt)++ls.drop i).length=ls.length:=by simp;omega
  have hti:((ls.take i).map (ren db dt)).length=i:=by simp;omega
  obtain ⟨⟨bn,bv,bx,bl,⟨⟩⟩,hb⟩:∃ b,ls[i]=b:=⟨_,rfl⟩
  have hcur:(ls.take i).map (ren db dt)++ls.drop i=(ls.take i).map (ren db dt)++((bn,(bv,(bx,(bl,()))))::ls.drop (i+1)):=by
   rw [List.drop_eq_getElem_cons h,hb]
  have hg:((ls.take i).map (ren db dt)++ls.drop i).getD i (([]:List UInt8),((0:Int),((0:Int),(([]:(List Ltr)),()))))=(bn,(bv,(bx,(bl,())))):=by
   rw [hcur,List.getD_eq_getElem?_getD,List.getElem?_append_right (by omega),hti,Nat.sub_self]
   rfl
  have hset:∀ x:Bx,((ls.take i).map (ren db dt)++ls.drop i).set i x=(ls.take i).map (ren db dt)++(x::ls.drop (i+1)):=λx=>by
   rw [hcur]
   have:=append_set ((ls.take i).map (ren db dt)) (ls.drop (i+1)) (bn,(bv,(bx,(bl,())))) x
   rw [hti] at this
   exact this
  have hnext:(ls.take i).map (ren db dt)++((undr bn db dt,(bv,(bx,(bl,()))))::ls.drop (i+1))=(ls.take (i+1)).map (ren db dt)++ls.drop (i+1):=by
   rw [List.take_succ_eq_append_getElem h,List.map_append,List.map_cons,hb]
   simp [ren]
  have hbn:bn.length<=24:=by
   have:=name_le (hn ls[i] (List.getElem_mem h))
   rw [hb] at this
   exact this
  have e102:=F102_eq bn db dt (by omega) h2 h3
  have e70:=F70_eq (undr bn db dt)
  generalize hC:(ls.take i).map (ren db dt)++ls.drop i=C at hlen hg hset
  cases hr:rightB (undr bn db dt) with
  | false =>
   rw [hr] at e70
   right
   refine ⟨.inr (((),(),(),()),((un,uv,(),()),C,())),?_,_,rfl⟩
   cases hm:moves bn db with
   | false =>
    rw [hm] at e102
    simp only [B77_0,d0,d1,hlen,bAs,cTt,cFf,nCt,oBs,hg,e102,e70,Bool.not_false]
   | true =>
    rw [hm] at e102
    simp only [B77_0,d0,d1,hlen,bAs,cTt,nCt,oBs,hg,e102,e70,Bool.not_false]
  | true =>
   rw [hr] at e70
   left
   have hgood:∀ k,k<i+1->rightB (undr (ls.getD k nob).1 db dt)=true:=λk hk'=>by
    rcases Nat.lt_or_ge k i with h' | h'
    ·exact hk k h'
    ·obtain rfl:k=i:=by omega
     rw [List.getD_eq_getElem?_getD,List.getElem?_eq_getElem h,hb]
     exact hr
   cases hm:moves bn db with
   | false =>
    rw [hm] at e102
    refine ⟨_,by simp only [B77_0,d0,d1,hlen,bAs,cTt,cFf,nCt,oBs,hg,e102,e70,Bool.not_true,hset,hnext,w1];rfl,⟨i+1,_,h,hgood,rfl⟩,?_⟩
    simp only;omega
   | true =>
    rw [hm] at e102
    refine ⟨_,by simp only [B77_0,d0,d1,hlen,bAs,cTt,cFf,nCt,oBs,hg,e102,e70,Bool.not_true,hset,hnext,w1];rfl,⟨i+1,_,h,hgood,rfl⟩,?_⟩
    simp only;omega
 ·have hi':i=ls.length:=by omega
  subst hi'
  right
  refine ⟨.inl (((),(),n,()),((un,uv,(),()),((),(),(),()),ls.map (ren db dt),xs,())),?_,n,rfl,λb hb=>?_⟩
  ·simp only [B77_0,Int.lt_irrefl,decide_false,cFf,List.take_length,List.drop_length,List.append_nil]
  ·obtain ⟨k,hk',rfl⟩:=List.getElem_of_mem hb
   have:=hk k hk'
   rw [List.getD_eq_getElem?_getD,List.getElem?_eq_getElem hk'] at this
   exact this
theorem L77_1_ex (un:Tx) (uv n:Int) (ls xs:List Bx) (h1:1<=ls.length) (hl:ls.length<=6) :
  ∃ r:R77,L77_1 (((),(),n,((ls.length-1:Nat):Int),(0:Int),()),((un,uv,(),()),((),(),(),()),ls,xs,()))=some r /\
   match r with
   | .inl q=>q=(((),(),n,()),((un,uv,(),()),((),(),(),()),ls,xs,()))/\∀ k,k+1<ls.length->(ls.getD k nob).1≠(ls.getD (k+1) nob).1
   | .inr q=>q=(((),(),(),()),((un,uv,(),()),ls,())):=by
 have hF:=FUEL_big
 unfold L77_1
 refine loop_ind (f:=B77_1) (λp=>∃ (i:Nat),i<=ls.length-1/\(∀ k,k<i->(ls.getD k nob).1≠(ls.getD (k+1) nob).1) /\
   p=(((),(),n,((ls.length-1:Nat):Int),(i:Int),()),((un,uv,(),()),((),(),(),()),ls,xs,())))
  (λp=>ls.length-p.1.2.2.2.2.1.toNat) _ ?_ ⟨0,Nat.zero_le _,λk hk=>absurd hk (Nat.not_lt_zero _),rfl⟩ (by simp only;omega)
 rintro p ⟨i,hi,hk,rfl⟩
 rcases Nat.lt_or_ge i (ls.length-1) with h | h
 ·have d0:decide ((i:Int)<((ls.length-1:Nat):Int))=true:=dTt (by omega)
  have d1:decide ((0:Int)<=(i:Int))=true:=dTt (by omega)
  have d2:decide ((i:Int)<((ls.length:Nat):Int))=true:=dTt (by omega)
  have w1:w64 ((i:Int)+1)=((i+1:Nat):Int):=by rw [w64_id (by omega) (by omega)];rfl
  have d3:decide ((0:Int)<=((i+1:Nat):Int))=true:=dTt (by omega)
  have d4:decide (((i+1:Nat):Int)<((ls.length:Nat):Int))=true:=dTt (by omega)
  by_cases he:(ls.getD i nob).1=(ls.getD (i+1) nob).1
  ·right
   refine ⟨.inr (((),(),(),()),((un,uv,(),()),ls,())),?_,rfl⟩
   simp only [B77_1,d0,d1,d2,w1,d3,d4,bAs,cTt,nCt,he,dTr]
  ·left
   refine ⟨_,by simp only [B77_1,d0,d1,d2,w1,d3,d4,bAs,cTt,nCt,he,decide_false,cFf],⟨i+1,h,λk hk'=>?_,rfl⟩,?_⟩
   ·rcases Nat.lt_or_ge k i with h' | h'
    ·exact hk k h'
    ·obtain rfl:k=i:=by omega
     exact he
   ·simp only;omega
 ·have hi':i=ls.length-1:=by omega
  subst hi'
  right
  refine ⟨.inl (((),(),n,()),((un,uv,(),()),((),(),(),()),ls,xs,())),?_,rfl,λk hk'=>hk k (by omega)⟩
  simp only [B77_1,Int.lt_irrefl,decide_false,cFf]
theorem inbx_stays {frm:Tx} (tt:Tx) (h:frm≠inbx):undr inbx frm tt=inbx:=by
 have hp:pfx inbx (frm++[47])=false:=by
  cases hp:pfx inbx (frm++[47]) with
  | false=>rfl
  | true =>
   exfalso
   unfold pfx at hp
   simp only [bAt,dTe] at hp
   have:(47:UInt8)∈inbx:=by
    refine List.mem_of_mem_take (i:=(frm++[47]).length) ?_
    rw [hp.2]
    simp
   exact absurd this (by decide)
 unfold undr moves
 rw [hp,dFf (λh'=>h h'.symm)]
 rfl
theorem sum_perm {a b:List Bx} (h:a.Perm b):tot a=tot b/\bts a=bts b:=⟨(h.map _).sum_nat,(h.map _).sum_nat⟩
theorem ren_sums (f t:Tx) (ls:List Bx):tot (ls.map (ren f t))=tot ls/\bts (ls.map (ren f t))=bts ls:=by
 unfold tot bts
 rw [List.map_map,List.map_map]
 exact ⟨rfl,rfl⟩
theorem F77_ex {u:Usr} (G:Fine u) (d:Dd) (h3:d.2.2.2.1.length<=1100000):∃ R:Usr×Int×Int×Unit,F77 ((u,d,()),())=some (R,())/\(R.2.2.1=0->Fine R.1/\R.1.1=u.1):=by
  obtain ⟨un,uv,ls,⟨⟩⟩:=u
  obtain ⟨lo,e39,_,_,_,h5,_⟩:=F39_eq (un,uv,ls,()) d.2.2.1 (Nat.le_trans G.good.few (by omega)) G.good.rise
  obtain ⟨dd,du,db,dt,uid,how,fl,ds,de,by',⟨⟩⟩:=d
  have g1:=G.good.few
  have g3:=G.good.each
  have g4:=G.good.below
  have g5:=G.names
  have g6:=G.inb
  have g7:=G.room
  simp only at h3 e39 h5 g1 g3 g4 g5 g6 g7
  cases hh:hasB ls db with
  | false =>
    rw [hh] at e39
    exact ⟨((un,uv,ls,()),0,9,()),by simp only [F77,e39,oBs,Bool.not_false,cTt],λh=>by simp at h⟩
  | true =>
    rw [hh] at e39
    obtain ⟨k1,k2⟩:=h5 hh
    by_cases hin:db=inbx
    . refine ⟨((un,uv,ls,()),0,13,()),?_,λh=>by simp at h⟩
      have:decide (db=([73,78,66,79,88]:List UInt8))=true:=dTt hin
      simp only [F77,e39,oBs,Bool.not_true,cFf,this,cTt]
    . have hdi:decide (db=([73,78,66,79,88]:List UInt8))=false:=dFf hin
      have e30:=F30_eq ls (by omega)
      have hdb:db.length<=24:=by
        have:=name_le (g5 _ (getD_mem k1))
        rw [k2] at this
        exact this
      obtain ⟨r,e0,hr⟩:=L77_0_ex un uv (dd,du,db,dt,uid,how,fl,ds,de,by',()) ls [] g1 g5 (by simp only;omega) h3
      cases r with
      | inr q =>
        obtain ⟨cur,rfl⟩:=hr
        exact ⟨((un,uv,cur,()),0,6,()),by simp only [F77,e39,oBs,Bool.not_true,cFf,hdi,e30,e0],λh=>by simp at h⟩
      | inl q =>
        obtain ⟨n,rfl,hnm⟩:=hr
        simp only at hnm
        have hp:(srtB (ls.map (ren db dt))).Perm (ls.map (ren db dt)):=srtBy_perm _ _ _
        have hs:(srtB (ls.map (ren db dt))).Pairwise λa b=>¬ b.1<a.1:=srtBy_sorted _ _ _
        have hlen:(srtB (ls.map (ren db dt))).length=ls.length:=by rw [hp.length_eq,List.length_map]
        have hok:srtBOK (ls.map (ren db dt))=true:=by
          unfold srtBOK
          simp only [List.length_map,bAt,dTe,Bool.not_eq_true',List.isEmpty_eq_false_iff]
          refine ⟨by omega,λh=>?_⟩
          have:=congrArg List.length h
          rw [List.length_map,List.length_nil] at this
          omega
        obtain ⟨S,hS⟩:∃ S,srtB (ls.map (ren db dt))=S:=⟨_,rfl⟩
        rw [hS] at hp hs hlen
        obtain ⟨r,e1,hr⟩:=L77_1_ex un uv n S [] (by omega) (by omega)
        have c1:decide ((1:Int)<=((S.length:Nat):Int))=true:=dTt (by omega)
        cases r with
        | inr q =>
          obtain rfl:=hr
          exact ⟨((un,uv,S,()),0,10,()),by simp only [F77,e39,oBs,Bool.not_true,cFf,hdi,e30,e0,hok,cTt,hS,c1,Int.le_refl,dTr,bAs,nCt,e1],λh=>by simp at h⟩
        | inl q =>
          obtain ⟨rfl,hd⟩:=hr
          refine ⟨((un,uv,S,()),n,0,()),by simp only [F77,e39,oBs,Bool.not_true,cFf,hdi,e30,e0,hok,cTt,hS,c1,Int.le_refl,dTr,bAs,nCt,e1],λ_=>⟨?_,rfl⟩⟩
          have hmem:∀ b∈S,∃ a∈ls,ren db dt a=b:=λb hb=>List.mem_map.1 (hp.mem_iff.1 hb)
          have hrise:S.Pairwise λa b=>a.1<b.1:=rise_of λk hk=>by
            have h1:=List.pairwise_iff_getElem.1 hs k (k+1) (by omega) hk (by omega)
            have h2:=hd k hk
            rw [List.getD_eq_getElem?_getD,List.getD_eq_getElem?_getD,List.getElem?_eq_getElem (show k<S.length by omega),List.getElem?_eq_getElem hk] at h2 ⊢
            exact tx_total h1 λe=>h2 e.symm
          have heach:∀ b∈S,Right (bxOf b):=λb hb=>by
            obtain ⟨a,ha,rfl⟩:=hmem b hb
            have R:=g3 a ha
            exact ⟨R.valid,R.next,R.few,R.each,R.rise⟩
          have hfew:S.length<=6:=by omega
          have hsum:=sum_perm hp
          have hsum2:=ren_sums db dt ls
          have hroom:=(wth_iff g3 g1).1 g7
          exact {
            good:=⟨hfew,hrise,heach,G.good.valid,λb hb=>by
              obtain ⟨a,ha,rfl⟩:=hmem b hb
              exact g4 a ha⟩
            user:=G.user
            names:=λb hb=>by
              obtain ⟨a,ha,rfl⟩:=hmem b hb
              exact hnm a ha
            inb:=by
              obtain ⟨b,hb,hbn⟩:=g6
              refine ⟨ren db dt b,hp.mem_iff.2 (List.mem_map_of_mem hb),?_⟩
              unfold ren
              rw [hbn]
              exact inbx_stays dt hin
            room:=by
              show wth S=true
              rw [wth_iff heach hfew]
              omega }
end Go.So
namespace Go.So
open Go Go.Ev
set_option maxRecDepth 100000
structure FineM (m:Mp):Prop where
 nodup:(m.map (·.1)).Nodup
 few:m.length<=16
 fine:∀ (k:Tx) u,mapGet .str m k=some u->Fine (usr u)/\u.1=k
theorem FineM.nil:FineM []:=⟨List.nodup_nil,Nat.zero_le _,λk u h=>by cases h⟩
theorem FineM.set {m:Mp} (G:FineM m) {k:Tx} {u:Usr} (hl:(mapSet .str m k (u.1,(u.2.1,(u.2.2.1,())))).length<=16) (hu:Fine u) (hk:u.1=k):FineM (mapSet .str m k (u.1,(u.2.1,(u.2.2.1,())))) where
 nodup:=mapSet_nd KE_str G.nodup
 few:=hl
 fine:=λk' u' h=>by
  rw [mapGet_set KE_str G.nodup] at h
  cases hq:keyEq .str k' k with
  | true =>
   rw [hq,cTt,oSi] at h
   subst h
   have:k'=k:=(KE_str k' k).1 hq
   exact ⟨hu,hk.trans this.symm⟩
  | false =>
   rw [hq,cFf] at h
   exact G.fine k' u' h
theorem FineM.del {m:Mp} (G:FineM m) (k:Tx):FineM (mapDel .str m k) where
 nodup:=mapDel_nd (t:=.str) G.nodup
 few:=Nat.le_trans (mapDel_sub (t:=.str) m k).length_le G.few
 fine:=λk' u' h=>by
  rw [mapGet_del KE_str G.nodup] at h
  cases hq:keyEq .str k' k with
  | true=>rw [hq,cTt] at h;cases h
  | false =>
   rw [hq,cFf] at h
   exact G.fine k' u' h
theorem come_fine {m:Mp} (G:FineM m) {u:Usr} (hu:Fine u):FineM (come m u).2:=by
 unfold come
 split
 ·exact G
 ·rename_i h1
  split
  ·exact G
  ·rename_i h2
   refine G.set ?_ hu rfl
   rw [mapSet_len KE_str]
   have:=G.few
   cases (mapGet .str m u.1).isSome
   ·simp only [cFf];omega
   ·simp only [cTt];omega
theorem kept_fine {m:Mp} (G:FineM m) {user:Tx} {u:Tx×(Int×(List Bx×Unit))} (hm:mapGet .str m user=some u) (r:Usr×Int×Int×Unit) (h:r.2.2.1=0->Fine r.1/\r.1.1=user):FineM (kept m user r).2:=by
 unfold kept
 simp only
 split
 ·rename_i h0
  refine G.set ?_ (h h0).1 (h h0).2
  rw [mapSet_len KE_str,hm]
  exact G.few
 ·exact G
theorem F48_enter (m:Mp) (d:Dd) (u:Usr) (hc:F73 ((d,()),())=some (0,())) (h8:d.1=8) (h75:F75 ((d.2.2.2.2.2.2.2.2.2.1,()),())=some ((u,0,()),())) :
  F48 ((true,d,()),(((),()),m,()))=some ((0,(come m u).1,()),(((),()),(come m u).2,())):=by
 obtain ⟨dd,du,db,dt,uid,how,fl,ds,de,by',⟨⟩⟩:=d
 obtain ⟨un,uv,ls,⟨⟩⟩:=u
 simp only at h8 h75
 subst h8
 have e74:=F74_eq m (un,uv,ls,())
 simp only [F48,hc,oBs,dTr,Bool.not_true,cFf,cTt,agr_self,show decide ((8:Int)=1)=false from rfl,h75,e74]
theorem F48_rename (m:Mp) (d:Dd) (u:Tx×(Int×(List Bx×Unit))) (R:Usr×Int×Int×Unit) (hc:F73 ((d,()),())=some (0,())) (h7:d.1=7) (hm:mapGet .str m d.2.1=some u)
  (h77:F77 ((usr u,d,()),())=some (R,())) :
  F48 ((true,d,()),(((),()),m,()))=some ((kept m d.2.1 R).1,(((),()),(kept m d.2.1 R).2,())):=by
 obtain ⟨dd,du,db,dt,uid,how,fl,ds,de,by',⟨⟩⟩:=d
 obtain ⟨un,uv,ls,⟨⟩⟩:=u
 obtain ⟨⟨ru,rv,rl,⟨⟩⟩,rn,re,⟨⟩⟩:=R
 simp only at h7 hm
 subst h7
 unfold usr at h77
 simp only at h77
 simp only [F48,hc,oBs,dTr,Bool.not_true,cFf,cTt,agr_self,hm,show decide ((7:Int)=1)=false from rfl,show decide ((7:Int)=8)=false from rfl,show decide ((7:Int)=2)=false from rfl,show decide ((7:Int)=3)=false from rfl,Option.isSome_some,Option.getD_some,h77,kept]
 by_cases hr:re=0
 ·simp [hr]
 ·simp [hr]
theorem F48_leave (m:Mp) (d:Dd) (u:Tx×(Int×(List Bx×Unit))) (hc:F73 ((d,()),())=some (0,())) (h9:d.1=9) (hm:mapGet .str m d.2.1=some u) :
  F48 ((true,d,()),(((),()),m,()))=some ((0,0,()),(((),()),mapDel .str m d.2.1,())):=by
 obtain ⟨dd,du,db,dt,uid,how,fl,ds,de,by',⟨⟩⟩:=d
 obtain ⟨un,uv,ls,⟨⟩⟩:=u
 simp only at h9 hm
 subst h9
 simp only [F48,hc,oBs,dTr,Bool.not_true,cFf,cTt,agr_self,hm,show decide ((9:Int)=1)=false from rfl,show decide ((9:Int)=8)=false from rfl,show decide ((9:Int)=2)=false from rfl,show decide ((9:Int)=3)=false from rfl,show decide ((9:Int)=7)=false from rfl,Option.isSome_some,Option.getD_some]
theorem F48_fine {m:Mp} (G:FineM m) (d:Dd) (hu:d.2.1.length<=1100000) (ht:d.2.2.2.1.length<=1100000) :
  ∃ n e m',F48 ((true,d,()),(((),()),m,()))=some ((n,e,()),(((),()),m',()))/\FineM m':=by
 obtain ⟨e0,hc,hC⟩:=F73_ex d (Nat.le_trans hu (by decide))
 by_cases he0:e0=0
 ·subst he0
  obtain ⟨C,hE⟩:=hC rfl
  by_cases h1:d.1=1
  ·exact ⟨_,_,_,F48_open m d hc h1,come_fine G (new_fine C.user)⟩
  ·by_cases h8:d.1=8
   ·obtain ⟨u,h75,_,hF⟩:=hE h8
    exact ⟨_,_,_,F48_enter m d u hc h8 h75,come_fine G hF⟩
   ·cases hm:mapGet .str m d.2.1 with
    | none=>exact ⟨_,_,_,F48_gone m d hc h1 h8 hm,G⟩
    | some u =>
     obtain ⟨Fu,hk⟩:=G.fine d.2.1 u hm
     have Gu:Good u:=Fu.good
     by_cases h23:d.1=2\/d.1=3
     ·obtain ⟨lo,e1,e2,e3,e4,e5,e6⟩:=F76_eq u d (Nat.le_trans Gu.few (by decide)) Gu.rise
      refine ⟨_,_,_,F48_shape m d u lo hc h23 hm e1,kept_fine G hm _ λhe=>?_⟩
      by_cases h2:d.1=2
      ·obtain ⟨q1,q2⟩:=make_fine Fu d h2 e2 e3 e4 e6 (C.box h2) he
       exact ⟨q1,q2.trans hk⟩
      ·obtain ⟨q1,q2⟩:=drop_fine Fu d h2 e5 he
       exact ⟨q1,q2.trans hk⟩
     ·rw [not_or] at h23
      by_cases h7:d.1=7
      ·obtain ⟨R,e1,e2⟩:=F77_ex Fu d ht
       refine ⟨_,_,_,F48_rename m d u R hc h7 hm e1,kept_fine G hm _ λhe=>?_⟩
       obtain ⟨q1,q2⟩:=e2 he
       exact ⟨q1,q2.trans hk⟩
      ·by_cases h9:d.1=9
       ·exact ⟨_,_,_,F48_leave m d u hc h9 hm,G.del _⟩
       ·rcases F78_eq u d (Nat.le_trans Gu.few (by decide)) Gu.len Gu.rise with ⟨_,e1⟩ | ⟨lo,l1,l2,e1⟩
        ·exact ⟨_,_,_,F48_box m d u _ hc h1 h23.1 h23.2 h7 h8 h9 hm e1,kept_fine G hm _ λh=>absurd h (by simp)⟩
        ·refine ⟨_,_,_,F48_box m d u _ hc h1 h23.1 h23.2 h7 h8 h9 hm e1,kept_fine G hm _ λhe=>?_⟩
         obtain ⟨q1,q2⟩:=boxd_fine Fu l1 d he
         exact ⟨q1,q2.trans hk⟩
 ·exact ⟨0,e0,m,F48_bad m d e0 hc he0,G⟩
end Go.So
namespace Go.So
open Go Go.Ev
set_option maxRecDepth 100000
abbrev Small (d:Dd):Prop:=d.2.1.length<=1100000/\d.2.2.2.1.length<=1100000
abbrev R27:Type:=((Bool×Unit×Unit)×((Unit×Unit)×Mp×(List Int)×Unit))⊕((Bool×Unit×Int×Int×Unit)×((Unit×Unit)×Mp×(List Int)×Unit))
theorem L27_ex {m:Mp} (G:FineM m) (l:List Dd) (hs:∀ d∈l,Small d) (hl:l.length<=12) :
  ∃ r:R27,L27_0 ((true,(),l,((l.length:Nat):Int),(0:Int),()),(((),()),m,([]:List Int),()))=some r /\
   match r with
   | .inl q=>∃ m' o,q=((true,(),()),(((),()),m',o,()))/\FineM m'
   | .inr q=>∃ i e m' o,q=((true,(),i,e,()),(((),()),m',o,()))/\FineM m':=by
 have hF:=FUEL_big
 unfold L27_0
 refine loop_ind (f:=B27_0) (λp=>∃ (i:Nat) (m':Mp) (o:List Int),i<=l.length/\o.length<=i/\FineM m'/\p=((true,(),l,((l.length:Nat):Int),(i:Int),()),(((),()),m',o,()))) (λp=>l.length-p.1.2.2.2.2.1.toNat) _ ?_
  ⟨0,m,[],Nat.zero_le _,Nat.le_refl _,G,rfl⟩ (by simp only;omega)
 rintro p ⟨i,m',o,hi,ho,G',rfl⟩
 rcases Nat.lt_or_ge i l.length with h | h
 ·have d0:decide ((i:Int)<((l.length:Nat):Int))=true:=dTt (by omega)
  have d1:decide ((0:Int)<=(i:Int))=true:=dTt (by omega)
  have w1:w64 ((i:Int)+1)=((i+1:Nat):Int):=by rw [w64_id (by omega) (by omega)];rfl
  obtain ⟨d,hd⟩:∃ d,l[i]=d:=⟨_,rfl⟩
  have hg:∀ z,l.getD i z=d:=λz=>by rw [List.getD_eq_getElem?_getD,List.getElem?_eq_getElem h,hd];rfl
  have hm:Small d:=hs d (by rw [<- hd];exact List.getElem_mem h)
  obtain ⟨n,e,m2,h48,G2⟩:=F48_fine G' d hm.1 hm.2
  obtain ⟨dd,du,db,dt,uid,how,fl,ds,de,by',⟨⟩⟩:=d
  by_cases he:e=0
  ·subst he
   left
   have hb:bytesOK (o.length+[n].length) 8=true:=bytes_ok (by simp only [List.length_singleton];omega)
   refine ⟨_,by simp only [B27_0,d0,d1,bAs,cTt,oBs,nCt,hg,h48,dTr,Bool.not_true,cFf,hb,w1];rfl,⟨i+1,m2,_,h,?_,G2,rfl⟩,?_⟩
   ·rw [List.length_append,List.length_singleton];omega
   ·simp only;omega
  ·right
   refine ⟨.inr ((true,(),(i:Int),e,()),(((),()),m2,[],())),?_,_,_,_,_,rfl,G2⟩
   simp only [B27_0,d0,d1,bAs,cTt,oBs,nCt,hg,h48,dFf he,Bool.not_false]
 ·have hi':i=l.length:=by omega
  subst hi'
  right
  refine ⟨.inl ((true,(),()),(((),()),m',o,())),?_,_,_,rfl,G'⟩
  simp only [B27_0,Int.lt_irrefl,decide_false,cFf]
theorem F10_fine {m:Mp} (G:FineM m) (l:List Dd) (hs:∀ d∈l,Small d):∃ i e m' o,F10 ((true,l,()),(((),()),m,()))=some (((),i,e,()),(((),()),m',o,()))/\FineM m':=by
 have h27:∃ i e m' o,F27 ((true,l,()),(((),()),m,()))=some (((),i,e,()),(((),()),m',o,()))/\FineM m':=by
  by_cases h0:l.length=0
  ·have c0:decide (((l.length:Nat):Int)=0)=true:=dTt (by omega)
   exact ⟨0,2,m,[],by simp only [F27,Bool.not_true,cFf,c0,cTt],G⟩
  ·have c0:decide (((l.length:Nat):Int)=0)=false:=dFf (by omega)
   by_cases h1:12<l.length
   ·have c1:decide ((12:Int)<((l.length:Nat):Int))=true:=dTt (by omega)
    exact ⟨0,6,m,[],by simp only [F27,Bool.not_true,cFf,c0,c1,cTt],G⟩
   ·have c1:decide ((12:Int)<((l.length:Nat):Int))=false:=dFf (by omega)
    obtain ⟨r,e1,hr⟩:=L27_ex G l hs (by omega)
    cases r with
    | inl q =>
     obtain ⟨m',o,rfl,G'⟩:=hr
     exact ⟨0,0,m',o,by simp only [F27,Bool.not_true,cFf,c0,c1,e1,oBs],G'⟩
    | inr q =>
     obtain ⟨i,e,m',o,rfl,G'⟩:=hr
     exact ⟨i,e,m',o,by simp only [F27,Bool.not_true,cFf,c0,c1,e1,oBs],G'⟩
 obtain ⟨i,e,m',o,e27,G'⟩:=h27
 by_cases he:e=0
 ·subst he
  exact ⟨i,0,m',o,by simp only [F10,F22,Bool.not_true,cFf,cTt,oBs,e27,dTr],G'⟩
 ·exact ⟨i,e,m,o,by simp only [F10,F22,Bool.not_true,cFf,cTt,oBs,e27,dFf he],G⟩
theorem F12_eq {m:Mp} {name:Tx} {u:Tx×(Int×(List Bx×Unit))} (hm:mapGet .str m name=some u) (G:Good (usr u)) :
  F12 ((true,name,()),(((),()),m,()))=some (((u.1,u.2.1,(),()),0,()),(((),()),m,u.2.2.1,())):=by
 obtain ⟨un,uv,ls,⟨⟩⟩:=u
 have hF:=FUEL_big
 have hl:ls.length<=6:=G.few
 have e30:=F30_eq ls (by omega)
 have hL:∀ xs:List Bx,L12_0 ((true,(),(),(),((ls.length:Nat):Int),(0:Int),()),(((),()),m,((),(),(),()),(un,uv,(),()),ls,xs,()))=some ((true,(),(),()),(((),()),m,((),(),(),()),(un,uv,(),()),xs,ls,())):=λxs=>by
  unfold L12_0
  refine (walk_list (f:=B12_0) (λ(_:Unit) i=>((true,(),(),(),((ls.length:Nat):Int),(i:Int),()),(((),()),m,((),(),(),()),(un,uv,(),()),ls,xs,()))) ls (λ_ _=>.inl ()) (λ_=>((true,(),(),()),(((),()),m,((),(),(),()),(un,uv,(),()),xs,ls,())))
   (λb i a hi ha=>?_) (λb=>?_) (by omega) (b:=())).trans ?_
  ·have hma:a∈ls:=by
    have:=ha nob
    rw [List.getD_eq_getElem?_getD,List.getElem?_eq_getElem hi] at this
    rw [<- this]
    exact List.getElem_mem hi
   have R:=G.each a hma
   have e31:=F31_eq (bxOf a) R.few λl hl'=>(R.each l hl').2.2.2
   unfold bxOf at e31
   have d0:decide ((i:Int)<((ls.length:Nat):Int))=true:=dTt (by omega)
   have d1:decide ((0:Int)<=(i:Int))=true:=dTt (by omega)
   have w1:w64 ((i:Int)+1)=((i+1:Nat):Int):=by rw [w64_id (by omega) (by omega)];rfl
   have hset:ls.set i (a.1,(a.2.1,(a.2.2.1,(a.2.2.2.1,()))))=ls:=set_same ls i _ ha
   simp only [B12_0,d0,d1,bAs,cTt,oBs,nCt,ha,e31,hset,w1]
  ·simp only [B12_0,Int.lt_irrefl,decide_false,cFf]
  ·have:∀ (l:List Bx) (z:(Bool×Unit×Unit×Unit)×((Unit×Unit)×Mp×(Unit×Unit×Unit×Unit)×(Tx×Int×Unit×Unit)×List Bx×List Bx×Unit)),foldS (λ(_:Bx) (_:Unit)=>(.inl ():Unit⊕_)) (λ_=>z) () l=z:=λl z=>by
    induction l with
    | nil=>rfl
    | cons a t ih=>exact ih
   rw [this]
 simp only [F12,Bool.not_true,cFf,cTt,oBs,hm,Option.isSome_some,Option.getD_some,e30,hL]
theorem keys_perm (m:Mp):(keysL m).Perm (m.map (·.1)):=List.mergeSort_perm _ _
theorem tx_le_total (a b:Tx):(decide (a<=b)||decide (b<=a))=true:=by
 rcases List.le_total a b with h | h
 ·simp [h]
 ·simp [h]
theorem keys_rise {m:Mp} (hn:(m.map (·.1)).Nodup):(keysL m).Pairwise λa b=>a<b:=by
 have hs:(keysL m).Pairwise λa b=>(decide (a<=b))=true:=List.pairwise_mergeSort (λa b c h1 h2=>by
  simp only [dTe] at h1 h2 ⊢
  exact List.le_trans h1 h2) tx_le_total _
 have hd:(keysL m).Nodup:=(keys_perm m).nodup_iff.2 hn
 have:=hs.and hd
 exact this.imp λ{a b} h=>by
  obtain ⟨h1,h2⟩:=h
  simp only [dTe] at h1
  have h3:¬ b<a:=List.not_lt.2 h1
  exact tx_total h3 λe=>h2 e.symm
theorem F11_eq {m:Mp} (G:FineM m):F11 ((true,()),(((),()),m,()))=some ((),(((),()),m,keysL m,())):=by
 have hk:keysOK m=true:=by
  unfold keysOK
  simp only [bAt,dTe,List.all_eq_true]
  refine ⟨Nat.le_trans G.few (by decide),λp hp=>?_⟩
  have hg:=mapGet_mem KE_str G.nodup (k:=p.1) (x:=p.2) hp
  obtain ⟨F,he⟩:=G.fine p.1 p.2 hg
  rw [<- he]
  exact Nat.le_trans (user_le F.user) (by decide)
 simp only [F11,Bool.not_true,cFf,cTt,hk]
end Go.So
namespace Go.So
open Go Go.Ev
set_option maxRecDepth 100000
def dOpen:Dd:=(1,[117],[],[],0,0,0,0,0,[],())
def dPut:Dd:=(4,[117],[73,78,66,79,88],[],0,0,0,0,0,[120],())
theorem chk_open:F73 ((dOpen,()),())=some (0,()):=by kernel_rfl
theorem chk_put:F73 ((dPut,()),())=some (0,()):=by kernel_rfl
def m1:Mp:=[([117],([117],(1,([(inbx,(1,(1,([],()))))],()))))]
def m2:Mp:=[([117],([117],(1,([(inbx,(1,(2,([(1,(0,([120],())))],()))))],()))))]
theorem one_open:F48 ((true,dOpen,()),(((),()),[],()))=some ((1,0,()),(((),()),m1,())) :=
 (F48_open [] dOpen chk_open rfl).trans (by rfl)
theorem one_put:F48 ((true,dPut,()),(((),()),m1,()))=some ((1,0,()),(((),()),m2,())):=by
 have hR:∃ R,F78 ((newU [117],dPut,()),())=some (R,())/\R=(([117],1,[(inbx,(1,(2,([(1,(0,([120],())))],()))))],()),1,0,()):=by
  have G:=new_good [117]
  rcases F78_eq (newU [117]) dPut (Nat.le_trans G.few (by decide)) G.len G.rise with ⟨h,_⟩ | ⟨lo,h1,_,h2⟩
  ·exact absurd h (by decide)
  ·have:lo=0:=by simpa [newU] using h1
   subst this
   exact ⟨_,h2,by rfl⟩
 obtain ⟨R,h1,h2⟩:=hR
 subst h2
 exact (F48_box m1 dPut ([117],(1,([(inbx,(1,(1,([],()))))],()))) _ chk_put (by decide) (by decide) (by decide) (by decide) (by decide) (by decide) rfl h1).trans (by rfl)
theorem run_two:L27_0 ((true,(),[dOpen,dPut],(2:Int),(0:Int),()),(((),()),([]:Mp),([]:List Int),()))=some (.inl ((true,(),()),(((),()),m2,[1,1],())):R9):=by
 have o1:=one_open
 have o2:=one_put
 unfold dOpen at o1
 unfold dPut at o2
 have s0:B27_0 ((true,(),[dOpen,dPut],(2:Int),(0:Int),()),(((),()),([]:Mp),([]:List Int),()))=some (.inl ((true,(),[dOpen,dPut],(2:Int),(1:Int),()),(((),()),m1,([1]:List Int),()))):=by
  have hw:w64 (0+1)=1:=by rfl
  simp only [B27_0,dOpen,dPut,List.length_cons,List.length_nil,show decide ((0:Int)<2)=true from rfl,show decide ((0:Int)<=0)=true from rfl,show decide ((0:Int)<((0+1+1:Nat):Int))=true from rfl,Bool.and_true,cTt,oBs,Int.toNat_zero,List.getD_cons_zero,o1,dTr,Bool.not_true,cFf,List.nil_append,hw]
  rfl
 have s1:B27_0 ((true,(),[dOpen,dPut],(2:Int),(1:Int),()),(((),()),m1,([1]:List Int),()))=some (.inl ((true,(),[dOpen,dPut],(2:Int),(2:Int),()),(((),()),m2,([1,1]:List Int),()))):=by
  have hw:w64 (1+1)=2:=by rfl
  simp only [B27_0,dOpen,dPut,List.length_cons,List.length_nil,show decide ((1:Int)<2)=true from rfl,show decide ((0:Int)<=1)=true from rfl,show decide ((1:Int)<((0+1+1:Nat):Int))=true from rfl,Bool.and_true,cTt,oBs,show (1:Int).toNat=1 from rfl,List.getD_cons_succ,List.getD_cons_zero,o2,dTr,Bool.not_true,cFf,hw]
  rfl
 have s2:B27_0 ((true,(),[dOpen,dPut],(2:Int),(2:Int),()),(((),()),m2,([1,1]:List Int),()))=some (.inr (.inl ((true,(),()),(((),()),m2,[1,1],())):R9)):=by
  simp only [B27_0,show decide ((2:Int)<2)=false from rfl,cFf]
 show iter B27_0 FUEL _=_
 rw [show FUEL=9223372036854775805+1+1+1 from rfl]
 simp only [iter,s0,s1,s2]
theorem two:F10 ((true,[dOpen,dPut],()),(((),()),([]:Mp),()))=some (((),0,0,()),(((),()),m2,[1,1],())):=by
 have h1:decide (((2:Nat):Int)=0)=false:=rfl
 have h2:decide ((12:Int)<((2:Nat):Int))=false:=rfl
 have h:=run_two
 simp only [F10,F22,F27,Bool.not_true,cFf,cTt,oBs,List.length_cons,List.length_nil,show ((0+1+1:Nat):Int)=2 from rfl,show decide ((2:Int)=0)=false from rfl,show decide ((12:Int)<2)=false from rfl,h,dTr]
theorem box_two:F16 ((true,[117],[73,78,66,79,88],()),(((),()),m2,()))=some (((inbx,1,2,[(1,(0,([120],())))],()),(0:Int),()),(((),()),m2,())):=by
  refine (F16_eq m2 [117] [73,78,66,79,88] λu hu=>?_).trans (by rfl)
  have:u=([117],(1,([(inbx,(1,(2,([(1,(0,([120],())))],()))))],()))):=by
    have h:mapGet .str m2 [117]=some ([117],(1,([(inbx,(1,(2,([(1,(0,([120],())))],()))))],()))):=rfl
    rw [h] at hu
    exact (Option.some.inj hu).symm
  subst this
  exact {
    few:=by decide
    rise:=by simp [usr]
    each:=λb hb=>by
      simp only [usr,List.mem_singleton] at hb
      subst hb
      exact ⟨by decide,by decide,by decide,by decide,by decide⟩
    valid:=by decide
    below:=λb hb=>by
      simp only [usr,List.mem_singleton] at hb
      subst hb
      decide }
theorem live_true:F14 ((),())=some (true,()):=by
 have h5:=two
 have h6:=box_two
 unfold dOpen dPut at h5
 have h12:F36 (([1,1],[1,1],()),())=some (true,()):=by kernel_rfl
 simp only [F14,F9,oBs,List.isEmpty_cons,Bool.not_false,cTt,h5,h6,dTr,h12]
 rfl
end Go.So
namespace Go.So
open Go Go.Ev
set_option maxRecDepth 100000
theorem L3_1_eq {m:Mp} (G:FineM m) (all:List (List Dd)) (i0:Int):L3_1 ((all,(),i0,(),(0:Int),()),(((),()),keysL m,m,()))=some (.inl ((all,(),i0,()),(((),()),m,()))):=by
 have hF:=FUEL_big
 have hkl:(keysL m).length<=16:=by
  rw [(keys_perm m).length_eq,List.length_map]
  exact G.few
 have hrise:=keys_rise G.nodup
 have hmem:∀ a∈keysL m,∃ u,mapGet .str m a=some u:=λa ha=>by
  obtain ⟨p,hp,rfl⟩:=List.mem_map.1 ((keys_perm m).mem_iff.1 ha)
  exact ⟨p.2,mapGet_mem KE_str G.nodup (k:=p.1) (x:=p.2) hp⟩
 generalize keysL m=K at hkl hrise hmem
 unfold L3_1
 refine (walk_list (f:=B3_1) (λ(_:Unit) i=>((all,(),i0,(),(i:Int),()),(((),()),K,m,()))) K (λ_ _=>.inl ()) (λ_=>.inl ((all,(),i0,()),(((),()),m,())))
  (λb i a hi ha=>?_) (λb=>?_) (by omega) (b:=())).trans ?_
 ·have hma:a∈K:=by
   have:=ha []
   rw [List.getD_eq_getElem?_getD,List.getElem?_eq_getElem hi] at this
   rw [<- this]
   exact List.getElem_mem hi
  obtain ⟨u,hu⟩:=hmem a hma
  obtain ⟨Fu,hn⟩:=G.fine a u hu
  have e12:=F12_eq hu Fu.good
  have e13:F13 (((u.1,u.2.1,u.2.2.1,()),()),())=some (0,()):=F13_eq Fu
  have d0:decide ((i:Int)<((K.length:Nat):Int))=true:=dTt (by omega)
  have d1:decide ((0:Int)<=(i:Int))=true:=dTt (by omega)
  have w1:w64 ((i:Int)+1)=((i+1:Nat):Int):=by rw [w64_id (by omega) (by omega)];rfl
  have hn':decide (u.1=a)=true:=dTt hn
  have ha':=ha []
  cases i with
  | zero =>
   have p0:decide ((0:Int)<((0:Nat):Int))=false:=rfl
   simp only [B3_1,d0,d1,bAs,cTt,nCt,ha',e12,oBs,dTr,Bool.true_or,hn',Bool.not_true,Bool.or_self,Bool.not_false,e13,p0,Bool.false_and,Bool.or_true,cFf,w1]
  | succ j =>
   have p0:decide ((0:Int)<((j+1:Nat):Int))=true:=dTt (by omega)
   have w2:w64 (((j+1:Nat):Int)-1)=(j:Int):=by rw [w64_id (by omega) (by omega)];omega
   have p1:decide ((0:Int)<=(j:Int))=true:=dTt (by omega)
   have p2:decide ((j:Int)<((K.length:Nat):Int))=true:=dTt (by omega)
   have hr:K.getD j []<a:=by
    have:=List.pairwise_iff_getElem.1 hrise j (j+1) (by omega) hi (by omega)
    rw [<- ha',List.getD_eq_getElem?_getD,List.getD_eq_getElem?_getD,List.getElem?_eq_getElem (show j<K.length by omega),List.getElem?_eq_getElem hi]
    exact this
   have p3:Op.bytesLess a (K.getD j [])=false:=by
    rw [bl_eq]
    exact dFf (List.lt_asymm hr)
   have p4:decide (a=K.getD j [])=false:=dFf λh=>by
    rw [<- h] at hr
    exact List.lt_irrefl _ hr
   simp only [B3_1,d0,d1,bAs,cTt,nCt,ha',e12,oBs,dTr,Bool.true_or,hn',Bool.not_true,Bool.or_self,Bool.not_false,e13,p0,w2,p1,p2,p3,p4,Bool.and_false,cFf,w1]
 ·simp only [B3_1,Int.lt_irrefl,decide_false,cFf]
 ·have:∀ (l:List Tx) (z:((List (List Dd)×Unit×Int×Unit)×((Unit×Unit)×Mp×Unit))⊕((Unit×Unit)×Unit)),foldS (λ(_:Tx) (_:Unit)=>(.inl ():Unit⊕_)) (λ_=>z) () l=z:=λl z=>by
   induction l with
   | nil=>rfl
   | cons a t ih=>exact ih
  rw [this]
theorem law3 (all:List (List Dd)) (hs:∀ l∈all,∀ d∈l,Small d):F3 ((all,()),())=some (true,()):=by
 have hF:=FUEL_big
 obtain ⟨r,hr,rfl⟩:∃ r,L3_0 ((all,(),(0:Int),()),(((),()),([]:Mp),()))=some r/\r=.inl ((),()):=by
  unfold L3_0
  refine loop_ind (f:=B3_0) (λp=>∃ (i:Nat) (m:Mp),i<=60/\FineM m/\p=((all,(),(i:Int),()),(((),()),m,()))) (λp=>60-p.1.2.2.1.toNat) _ ?_ ⟨0,[],by omega,FineM.nil,rfl⟩ (by simp only;omega)
  rintro p ⟨i,m,hi,G,rfl⟩
  by_cases h:i<all.length/\i<60
  ·have d0:decide ((i:Int)<((all.length:Nat):Int))=true:=dTt (by omega)
   have d1:decide ((0:Int)<=(i:Int))=true:=dTt (by omega)
   have d2:decide ((i:Int)<60)=true:=dTt (by omega)
   have w1:w64 ((i:Int)+1)=((i+1:Nat):Int):=by rw [w64_id (by omega) (by omega)];rfl
   obtain ⟨l,hl⟩:∃ l,all[i]=l:=⟨_,rfl⟩
   have hg:∀ z,all.getD i z=l:=λz=>by rw [List.getD_eq_getElem?_getD,List.getElem?_eq_getElem h.1,hl];rfl
   obtain ⟨a,e,m2,o,e10,G2⟩:=F10_fine G l (hs l (by rw [<- hl];exact List.getElem_mem h.1))
   have e11:=F11_eq G2
   have e31:=L3_1_eq G2 all (i:Int)
   have hkl:decide ((16:Int)<(((keysL m2).length:Nat):Int))=false:=dFf (by
    have:=G2.few
    rw [(keys_perm m2).length_eq,List.length_map]
    omega)
   left
   refine ⟨_,by simp only [B3_0,d0,d1,d2,bAs,cTt,nCt,hg,e10,oBs,e11,hkl,cFf,e31,w1],⟨i+1,m2,by omega,G2,rfl⟩,?_⟩
   simp only;omega
  ·right
   have d0:(decide ((i:Int)<((all.length:Nat):Int))&&decide ((i:Int)<60))=false:=by
    rw [Bool.and_eq_false_iff,decide_eq_false_iff_not,decide_eq_false_iff_not]
    omega
   exact ⟨.inl ((),()),by simp only [B3_0,d0,cFf],rfl⟩
 simp only [F3,F9,oBs,hr,live_true]
end Go.So
namespace Go.So
open Go Go.Ev
set_option maxRecDepth 100000
abbrev DdT:Ty:=.pair (.int .i64) (.pair .str (.pair .str (.pair .str (.pair (.int .i64) (.pair (.int .i64) (.pair .u8 (.pair (.int .i64) (.pair (.int .i64) (.pair (.sl .u8) .unit)))))))))
theorem sum_mem {α:Type} (f:α->Nat):∀ (l:List α) (x:α),x∈l->f x<=(l.map f).sum
 | [],_,h=>by cases h
 | a::t,x,h=>by
  rw [List.map_cons,List.sum_cons]
  rcases List.mem_cons.1 h with rfl | h
  ·omega
  ·have:=sum_mem f t x h;omega
theorem law3' (all:List (List Dd)) (hz:sizD (.sl (.sl DdT)) all<=1100000):F3 ((all,()),())=some (true,()) :=
 law3 all λl hl d hd=>by
  have h1:(List.map (sizD (.sl DdT)) all).sum<=1100000:=hz
  have h2:=sum_mem (sizD (.sl DdT)) all l hl
  have h3:=sum_mem (sizD DdT) l d hd
  have h4:sizD (.sl DdT) l=(List.map (sizD DdT) l).sum:=rfl
  obtain ⟨dd,du,db,dt,uid,how,fl,ds,de,by',⟨⟩⟩:=d
  have h5:1+((du.length+1)+((db.length+1)+((dt.length+1)+(1+(1+(1+(1+(1+(sizD (.sl .u8) by'+0)))))))))<=(List.map (sizD DdT) l).sum:=h3
  exact ⟨by simp only;omega,by simp only;omega⟩
end Go.So
namespace Go.So
open Go Go.Ev Go.Proofs
set_option maxRecDepth 100000
theorem maxl (w:World) (h:w.ShapedOpen Tryz.prog):∃ m,w.cell? ⟨0,0,none⟩=some (.int .i64 m) :=
 Go.Proofs.cell_of_shapedOpen_int (zero:=#[.int .i64 0]) (t:=3) h (of_decide_eq_true (by kernel_rfl)) (by kernel_rfl) rfl (by kernel_rfl) (by kernel_rfl) Tryz.underlying3
end Go.So
