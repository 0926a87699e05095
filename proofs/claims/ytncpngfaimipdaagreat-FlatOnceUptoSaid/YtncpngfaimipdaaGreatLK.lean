/- Texts that the last one leans on, 11. -/
import Derived.Test.YtncpngfaimipdaaGreatLJ
import Derived.Shelf.Vars
namespace Go.Fo
open Go Go.Ev
set_option maxRecDepth 100000
abbrev Jb:Type:=List Dd×(Bool×(Bool×Unit))
abbrev yy:Type:=List (Int×Jb)
abbrev noj:Int×Jb:=((0:Int),(([]:List Dd),(false,(false,()))))
abbrev nod:Dd:=((0:Int),(([]:List UInt8),(([]:List UInt8),(([]:List UInt8),((0:Int),((0:Int),((0:UInt8),((0:Int),((0:Int),(([]:List UInt8),()))))))))))
theorem getj_eq {J:yy} {i:Nat} (h:i<J.length):J.getD i noj=J[i]:=by
 rw [xk,List.getElem?_eq_getElem h];rfl
theorem wT {l:List Dd} {i:Nat} (h:i<l.length):l.getD i nod=l[i]:=by
 rw [xk,List.getElem?_eq_getElem h];rfl
theorem F332_walk (L:List RS) (J:yy) (n:Int) (hl:J.length<=100000000) :
  (∃ i:Nat,i<J.length/\(J.getD i noj).1=n/\(∀ k,k<i->(J.getD k noj).1≠n)/\F332 (((),n,()),((L,J,()),()))=some ((i:Int),((L,J,()),()))) \/
  ((∀ k,k<J.length->(J.getD k noj).1≠n)/\F332 (((),n,()),((L,J,()),()))=some ((-1:Int),((L,J,()),()))):=by
 have hF:=zK
 obtain ⟨r,h1,hr⟩:=yE (f:=B332_0) (p:=(((),n,(0:Int),()),((L,J,()),())))
  (λp=>∃ i:Nat,i<=J.length/\(∀ k,k<i->(J.getD k noj).1≠n)/\p=(((),n,(i:Int),()),((L,J,()),()))) (λp=>J.length-p.1.2.2.1.toNat)
  (λr=>(∃ i:Nat,i<J.length/\(J.getD i noj).1=n/\(∀ k,k<i->(J.getD k noj).1≠n)/\r=.inr (((),(i:Int),()),((L,J,()),())))\/((∀ k,k<J.length->(J.getD k noj).1≠n)/\r=.inl (((),()),((L,J,()),()))))
  (λp ⟨i,hi,hk,hp⟩=>by
   subst hp
   rcases Nat.lt_or_ge i J.length with h | h
   ·have d0:decide ((i:Int)<((J.length:Nat):Int))=true:=zW (by omega)
    have d1:decide ((0:Int)<=(i:Int))=true:=zW (by omega)
    have w1:zX ((i:Int)+1)=((i+1:Nat):Int):=by rw [zO (by omega) (by omega)];rfl
    by_cases hb:(J.getD i noj).1=n
    ·right
     refine ⟨_,?_,.inl ⟨i,h,hb,hk,rfl⟩⟩
     simp only [B332_0,d0,d1,z8,zG,zr,zW hb]
    ·left
     refine ⟨(((),n,((i+1:Nat):Int),()),((L,J,()),())),?_,⟨i+1,h,λk hk'=>?_,rfl⟩,by simp only;omega⟩
     ·simp only [B332_0,d0,d1,z8,zG,zr,zz hb,zJ,w1]
     ·rcases Nat.lt_or_ge k i with h' | h'
      ·exact hk k h'
      ·obtain rfl:k=i:=by omega
       exact hb
   ·right
    have d0:decide ((i:Int)<((J.length:Nat):Int))=false:=zz (by omega)
    exact ⟨_,by simp only [B332_0,d0,zJ],.inr ⟨λk hk'=>hk k (by omega),rfl⟩⟩) ⟨0,Nat.zero_le _,λk hk=>absurd hk (by omega),rfl⟩ (by simp only;omega)
 have hL:L332_0 (((),n,(0:Int),()),((L,J,()),()))=some r:=h1
 rcases hr with ⟨i,g1,g2,g3,rfl⟩ | ⟨g1,rfl⟩
 ·exact .inl ⟨i,g1,g2,g3,by simp only [F332,hL,zE]⟩
 ·exact .inr ⟨g1,by simp only [F332,hL,zE]⟩
theorem ki (a b:Int):yh (.int .i64) a b=decide (a=b):=rfl
theorem jget_at:∀ {A B:yy} {n:Int} {j:Jb},(∀ x∈A,x.1≠n)->zF (.int .i64) (A++(n,j)::B) n=some j/\∀ j',zZ (.int .i64) (A++(n,j)::B) n j'=A++(n,j')::B
 | [],B,n,j,_=>by simp [zF,zZ,ki]
 | a::A,B,n,j,h=>by
  have ha:decide (a.1=n)=false:=zz (h a (by simp))
  obtain ⟨h1,h2⟩:=jget_at (A:=A) (B:=B) (j:=j) λx hx=>h x (List.mem_cons_of_mem _ hx)
  refine ⟨?_,λj'=>?_⟩
  ·rw [List.cons_append,zF,ki,ha,zJ,h1]
  ·rw [List.cons_append,zZ,ki,ha,zJ,h2 j'];rfl
theorem jget_no:∀ {J:yy} {n:Int},(∀ x∈J,x.1≠n)->zF (.int .i64) J n=none/\∀ j',zZ (.int .i64) J n j'=J++[(n,j')]
 | [],n,_=>by simp [zF,zZ]
 | a::A,n,h=>by
  have ha:decide (a.1=n)=false:=zz (h a (by simp))
  obtain ⟨h1,h2⟩:=jget_no (J:=A) λx hx=>h x (List.mem_cons_of_mem _ hx)
  refine ⟨?_,λj'=>?_⟩
  ·rw [zF,ki,ha,zJ,h1]
  ·rw [zZ,ki,ha,zJ,h2 j'];rfl
theorem F332_eq (L:List RS) (J:yy) (n:Int) (hl:J.length<=100000000) :
  (∃ A B j,J=A++(n,j)::B/\zF (.int .i64) J n=some j/\(∀ j',zZ (.int .i64) J n j'=A++(n,j')::B)/\F332 (((),n,()),((L,J,()),()))=some (((A.length:Nat):Int),((L,J,()),()))) \/
  (zF (.int .i64) J n=none/\F332 (((),n,()),((L,J,()),()))=some ((-1:Int),((L,J,()),()))):=by
 rcases F332_walk L J n hl with ⟨i,h1,h2,h3,h4⟩ | ⟨h1,h2⟩
 ·left
  rw [getj_eq h1] at h2
  have hsp:J=J.take i++(n,J[i].2)::J.drop (i+1):=by
   rw [<- h2]
   show J=J.take i++J[i]::J.drop (i+1)
   rw [<- List.drop_eq_getElem_cons h1,List.take_append_drop]
  have hA:∀ x∈J.take i,x.1≠n:=λx hx=>by
   obtain ⟨k,hk,rfl⟩:=List.mem_take_iff_getElem.1 hx
   have:=h3 k (by omega)
   rwa [getj_eq (by omega)] at this
  obtain ⟨g1,g2⟩:=jget_at (A:=J.take i) (B:=J.drop (i+1)) (j:=J[i].2) hA
  refine ⟨J.take i,J.drop (i+1),J[i].2,hsp,by rw [<- hsp] at g1;exact g1,λj'=>?_,?_⟩
  ·have:=g2 j'
   rwa [<- hsp] at this
  ·rw [h4,y4,Nat.min_eq_left (by omega)]
 ·right
  obtain ⟨g1,_⟩:=jget_no (J:=J) (n:=n) λx hx=>by
   obtain ⟨k,hk,rfl⟩:=List.getElem_of_mem hx
   have:=h1 k hk
   rwa [getj_eq hk] at this
  exact ⟨g1,h2⟩
theorem F333_eq (L:List RS) (A B:yy) (n:Int) (j:Jb) (x:Int×Jb) (hl:(A++(n,j)::B).length<=100000000) :
  F333 (((),((A.length:Nat):Int),(x.1,x.2.1,x.2.2.1,x.2.2.2.1,()),()),((L,A++(n,j)::B,()),()))=some ((),((L,(),()),A++x::B,())):=by
 obtain ⟨xn,xd,x1,x2,⟨⟩⟩:=x
 have d0:decide ((0:Int)<=((A.length:Nat):Int))=true:=zW (by omega)
 have d1:decide (((A.length:Nat):Int)<(((A++(n,j)::B).length:Nat):Int))=true:=zW (by simp<;>omega)
 have b1:zC (([]:yy).length+(A++(n,j)::B).length) 40=true:=zT (by simp only [List.length_nil];omega)
 have hs:(A++(n,j)::B).set A.length (xn,(xd,(x1,(x2,()))))=A++(xn,(xd,(x1,(x2,()))))::B:=by simp
 simp only [F333,b1,zG,List.nil_append,zE,d0,d1,z8,zr,hs]
noncomputable instance:DecidableEq Dd:=λ_ _=>Classical.propDecidable _
theorem F361_eq' (a b:Dd):F361 ((a,b,()),())=some (decide (a=b),()):=by
 obtain ⟨a1,a2,a3,a4,a5,a6,a7,a8,a9,a10,⟨⟩⟩:=a
 obtain ⟨b1,b2,b3,b4,b5,b6,b7,b8,b9,b10,⟨⟩⟩:=b
 simp only [F361,Prod.mk.injEq,and_true,Bool.decide_and,Bool.and_assoc]
def zep (a:Dd):Dd:=(a.1,a.2.1,a.2.2.1,a.2.2.2.1,a.2.2.2.2.1,a.2.2.2.2.2.1,a.2.2.2.2.2.2.1,a.2.2.2.2.2.2.2.1,0,a.2.2.2.2.2.2.2.2.2.1,())
noncomputable def sameX (a b:Dd):Bool:=if a.1=9 then decide (zep a=zep b) else decide (a=b)
theorem F36_eq (a b:Dd):F36 ((a,b,()),())=some (sameX a b,()):=by
 obtain ⟨a1,a2,a3,a4,a5,a6,a7,a8,a9,a10,⟨⟩⟩:=a
 obtain ⟨b1,b2,b3,b4,b5,b6,b7,b8,b9,b10,⟨⟩⟩:=b
 unfold sameX zep
 by_cases h:a1=9
 ·simp only [F36,zW h,zG,zE,F27_eq,if_pos h,Prod.mk.injEq,and_true,Bool.decide_and,Bool.and_assoc,true_and,zU,Bool.and_true]
  cases decide (a1=b1) <;> cases decide (a2=b2) <;> cases decide (a3=b3) <;> cases decide (a4=b4) <;> cases decide (a5=b5) <;> cases decide (a6=b6) <;> cases decide (a7=b7) <;> cases decide (a8=b8) <;> rfl
 ·simp only [F36,zz h,zJ,zE,F27_eq,if_neg h,Prod.mk.injEq,and_true,Bool.decide_and,Bool.and_assoc]
  cases decide (a1=b1) <;> cases decide (a2=b2) <;> cases decide (a3=b3) <;> cases decide (a4=b4) <;> cases decide (a5=b5) <;> cases decide (a6=b6) <;> cases decide (a7=b7) <;> cases decide (a8=b8) <;> cases decide (a9=b9) <;> rfl
theorem F345_eq (a b:List Dd) (hl:a.length<=100000000):F345 ((a,b,()),())=some (decide (a=b),()):=by
 have hF:=zK
 by_cases hlen:a.length=b.length
 ·have d:decide (((a.length:Nat):Int)=((b.length:Nat):Int))=true:=zW (by omega)
  obtain ⟨r,h1,hr⟩:=yE (f:=B345_0) (p:=((a,b,(0:Int),()),()))
   (λp=>∃ i:Nat,i<=a.length/\(∀ k,k<i->a.getD k nod=b.getD k nod)/\p=((a,b,(i:Int),()),())) (λp=>a.length-p.1.2.2.1.toNat)
   (λr=>(r=.inl ((),())/\a=b)\/(r=.inr (((),()),())/\a≠b))
   (λp ⟨i,hi,hk,hp⟩=>by
    subst hp
    rcases Nat.lt_or_ge i a.length with h | h
    ·have d0:decide ((i:Int)<((a.length:Nat):Int))=true:=zW (by omega)
     have d0':decide ((i:Int)<((b.length:Nat):Int))=true:=zW (by omega)
     have d1:decide ((0:Int)<=(i:Int))=true:=zW (by omega)
     have w1:zX ((i:Int)+1)=((i+1:Nat):Int):=by rw [zO (by omega) (by omega)];rfl
     have hq:=F361_eq' (a.getD i nod) (b.getD i nod)
     by_cases hb:a.getD i nod=b.getD i nod
     ·left
      refine ⟨((a,b,((i+1:Nat):Int),()),()),?_,⟨i+1,h,λk hk'=>?_,rfl⟩,by simp only;omega⟩
      ·rw [zW hb] at hq
       simp only [B345_0,d0,d0',d1,z8,zG,zr]
       rw [hq]
       simp only [zE,zu,zJ,w1]
      ·rcases Nat.lt_or_ge k i with h' | h'
       ·exact hk k h'
       ·obtain rfl:k=i:=by omega
        exact hb
     ·right
      refine ⟨_,?_,.inr ⟨rfl,λe=>hb (by rw [e])⟩⟩
      rw [zz hb] at hq
      simp only [B345_0,d0,d0',d1,z8,zG,zr]
      rw [hq]
      simp only [zE,yq,zG]
    ·right
     have d0:decide ((i:Int)<((a.length:Nat):Int))=false:=zz (by omega)
     refine ⟨_,by simp only [B345_0,d0,zJ],.inl ⟨rfl,List.ext_getElem hlen λk h1 h2=>?_⟩⟩
     have:=hk k (by omega)
     rwa [wT h1,wT h2] at this) ⟨0,Nat.zero_le _,λk hk=>absurd hk (by omega),rfl⟩ (by simp only;omega)
  have hL:L345_0 ((a,b,(0:Int),()),())=some r:=h1
  rcases hr with ⟨rfl,he⟩ | ⟨rfl,he⟩
  ·simp only [F345,d,zu,zJ,hL,zE,zW he]
  ·simp only [F345,d,zu,zJ,hL,zE,zz he]
 ·have d:decide (((a.length:Nat):Int)=((b.length:Nat):Int))=false:=zz (by omega)
  have he:¬ a=b:=λe=>hlen (by rw [e])
  simp only [F345,d,yq,zG,zz he]
theorem L25_eq (D l:List Dd) (dn an:Bool) (hD:D.length<=12) (hl:D.length<=l.length) :
  L25_0 ((l,(),((D.length:Nat):Int),D,((D.length:Nat):Int),(0:Int),()),((D,dn,an,()),())) =
   some (if ∀ k,k<D.length->sameX (D.getD k nod) (l.getD k nod)=true then .inl ((l,(),((D.length:Nat):Int),()),((D,dn,an,()),())) else .inr (((),()),())):=by
 have hF:=zK
 obtain ⟨r,h1,hr⟩:=yE (f:=B25_0) (p:=((l,(),((D.length:Nat):Int),D,((D.length:Nat):Int),(0:Int),()),((D,dn,an,()),())))
  (λp=>∃ i:Nat,i<=D.length/\(∀ k,k<i->sameX (D.getD k nod) (l.getD k nod)=true)/\p=((l,(),((D.length:Nat):Int),D,((D.length:Nat):Int),(i:Int),()),((D,dn,an,()),()))) (λp=>D.length-p.1.2.2.2.2.2.1.toNat)
  (λr=>r=if ∀ k,k<D.length->sameX (D.getD k nod) (l.getD k nod)=true then .inl ((l,(),((D.length:Nat):Int),()),((D,dn,an,()),())) else .inr (((),()),()))
  (λp ⟨i,hi,hk,hp⟩=>by
   subst hp
   rcases Nat.lt_or_ge i D.length with h | h
   ·have d0:decide ((i:Int)<((D.length:Nat):Int))=true:=zW (by omega)
    have d0':decide ((i:Int)<((l.length:Nat):Int))=true:=zW (by omega)
    have d1:decide ((0:Int)<=(i:Int))=true:=zW (by omega)
    have w1:zX ((i:Int)+1)=((i+1:Nat):Int):=by rw [zO (by omega) (by omega)];rfl
    have hq:=F36_eq (D.getD i nod) (l.getD i nod)
    cases hb:sameX (D.getD i nod) (l.getD i nod) with
    | true =>
     left
     refine ⟨((l,(),((D.length:Nat):Int),D,((D.length:Nat):Int),((i+1:Nat):Int),()),((D,dn,an,()),())),?_,⟨i+1,h,λk hk'=>?_,rfl⟩,by simp only;omega⟩
     ·rw [hb] at hq
      simp only [B25_0,d0,d0',d1,z8,zG,zr,zE]
      rw [hq]
      simp only [zE,zu,zJ,w1]
     ·rcases Nat.lt_or_ge k i with h' | h'
      ·exact hk k h'
      ·obtain rfl:k=i:=by omega
       exact hb
    | false =>
     right
     refine ⟨_,?_,rfl⟩
     rw [if_neg λhh=>by rw [hh i h] at hb;cases hb]
     rw [hb] at hq
     simp only [B25_0,d0,d0',d1,z8,zG,zr,zE]
     rw [hq]
     simp only [zE,yq,zG]
   ·right
    have d0:decide ((i:Int)<((D.length:Nat):Int))=false:=zz (by omega)
    refine ⟨_,?_,rfl⟩
    rw [if_pos λk hk'=>hk k (by omega)]
    simp only [B25_0,d0,zJ]) ⟨0,Nat.zero_le _,λk hk=>absurd hk (by omega),rfl⟩ (by simp only;omega)
 have hL:L25_0 ((l,(),((D.length:Nat):Int),D,((D.length:Nat):Int),(0:Int),()),((D,dn,an,()),()))=some r:=h1
 rw [hL,hr]
structure JobOK (D:List Dd):Prop where
 some':1<=D.length
 few:D.length<=12
 alone:∀ d∈D,d.1=9->D.length=1
def uI (D l:List Dd):Prop:=if (D.getD 0 nod).1=9 then (∃ b e,l=[b,e]/\zep (D.getD 0 nod)=zep b/\e.1=8/\e.2.1=b.2.1/\e.2.2.2.2.2.2.2.2.1=b.2.2.2.2.2.2.2.2.1) else D=l
theorem F25_eq {D:List Dd} (hD:JobOK D) (l:List Dd) (dn an:Bool) (hl:l.length<=100000000):∃ q,F25 (((D,dn,an,()),l,()),())=some (q,())/\(q=true<->uI D l):=by
 have h1:=hD.some'
 have h2:=hD.few
 by_cases hlt:l.length<D.length
 ·refine ⟨false,?_,?_⟩
  ·have d:decide (((l.length:Nat):Int)<((D.length:Nat):Int))=true:=zW (by omega)
   simp only [F25,d,zG]
  ·constructor
   ·nofun
   ·intro hf
    exfalso
    unfold uI at hf
    split at hf
    ·next h9 =>
     obtain ⟨b,e,rfl,_⟩:=hf
     rw [wT (by omega)] at h9
     have:=hD.alone _ (List.getElem_mem (by omega)) h9
     simp only [List.length_cons,List.length_nil] at hlt
     omega
    ·rw [hf] at hlt;omega
 ·have d:decide (((l.length:Nat):Int)<((D.length:Nat):Int))=false:=zz (by omega)
  have e:=L25_eq D l dn an h2 (by omega)
  have p0:decide ((0:Int)<((D.length:Nat):Int))=true:=zW (by omega)
  by_cases hall:∀ k,k<D.length->sameX (D.getD k nod) (l.getD k nod)=true
  ·rw [if_pos hall] at e
   by_cases h9:(D.getD 0 nod).1=9
   ·have hD1:D.length=1:=hD.alone (D.getD 0 nod) (by rw [wT (by omega)];exact List.getElem_mem _) h9
    have h0:=hall 0 (by omega)
    unfold sameX at h0
    rw [if_pos h9,decide_eq_true_iff] at h0
    obtain ⟨a,rfl⟩:=List.length_eq_one_iff.1 hD1
    have c9:decide ((List.getD [a] 0 nod).1=9)=true:=zW h9
    match l,hlt,h0,e,d with
    | [],hlt,_,_,_=>simp at hlt
    | [b],_,_,e,d =>
     refine ⟨false,?_,?_⟩
     ·have q2:decide ((([b].length:Nat):Int)=2)=false:=rfl
      simp only [F25,d,zJ,e,zE,p0,zG,c9,zu,q2,yq,Bool.or_true,Bool.false_and]
     ·constructor
      ·nofun
      ·intro hf;unfold uI at hf;rw [if_pos h9] at hf;obtain ⟨_,_,hh,_⟩:=hf;simp at hh
    | [b,c],_,h0,e,d =>
     refine ⟨((decide (c.1=8)&&decide (c.2.1=b.2.1))&&decide (c.2.2.2.2.2.2.2.2.1=b.2.2.2.2.2.2.2.2.1)),?_,?_⟩
     ·have q2:decide ((([b,c].length:Nat):Int)=2)=true:=rfl
      have q1:decide ((1:Int)<(([b,c].length:Nat):Int))=true:=rfl
      have q0:decide ((0:Int)<(([b,c].length:Nat):Int))=true:=rfl
      have c9':decide (a.1=9)=true:=c9
      simp only [F25,d,zJ,e,zE,p0,zG,c9',zu,q0,q1,q2,Bool.true_or,Bool.true_and,List.getD_cons_zero,List.getD_cons_succ]
     ·simp only [yk,xX]
      unfold uI
      rw [if_pos h9]
      constructor
      ·exact λ⟨⟨g1,g2⟩,g3⟩=>⟨b,c,rfl,h0,g1,g2,g3⟩
      ·rintro ⟨b',c',hh,_,g1,g2,g3⟩
       simp only [List.cons.injEq,and_true] at hh
       obtain ⟨rfl,rfl⟩:=hh
       exact ⟨⟨g1,g2⟩,g3⟩
    | b::c::x::t,_,_,e,d =>
     have q2:decide ((((b::c::x::t).length:Nat):Int)=2)=false:=zz (by simp only [List.length_cons];omega)
     refine ⟨false,?_,?_⟩
     ·simp only [F25,d,zJ,e,zE,p0,zG,c9,zu,q2,yq,Bool.or_true,Bool.false_and]
     ·constructor
      ·nofun
      ·intro hf;unfold uI at hf;rw [if_pos h9] at hf;obtain ⟨_,_,hh,_⟩:=hf;simp at hh
   ·have c9:decide ((D.getD 0 nod).1=9)=false:=zz h9
    refine ⟨decide (((l.length:Nat):Int)=((D.length:Nat):Int)),?_,?_⟩
    ·simp only [F25,d,zJ,e,zE,p0,zG,c9,yq]
    ·unfold uI
     rw [if_neg h9,decide_eq_true_iff]
     constructor
     ·intro hle
      refine List.ext_getElem (by omega) λk g1 g2=>?_
      have hk:=hall k g1
      unfold sameX at hk
      rw [wT g1,wT g2] at hk
      split at hk
      ·next h9' =>
       have:=hD.alone _ (List.getElem_mem g1) h9'
       exfalso
       obtain rfl:k=0:=by omega
       rw [wT g1] at h9
       exact h9 h9'
      ·exact of_decide_eq_true hk
     ·intro hh;rw [hh]
  ·rw [if_neg hall] at e
   refine ⟨false,by simp only [F25,d,zJ,e,zE],?_⟩
   constructor
   ·nofun
   ·intro hf
    exfalso
    apply hall
    unfold uI at hf
    split at hf
    ·next h9 =>
     obtain ⟨b,c,rfl,hz,_⟩:=hf
     intro k hk
     have hD1:D.length=1:=hD.alone (D.getD 0 nod) (by rw [wT (by omega)];exact List.getElem_mem _) h9
     obtain rfl:k=0:=by omega
     unfold sameX
     rw [if_pos h9]
     exact zW hz
    ·intro k hk
     rw [hf]
     unfold sameX
     split <;> exact zW rfl
theorem loops {σ τ σ' τ':Type} {f:σ->Option (σ⊕τ)} {g:σ'->Option (σ'⊕τ')} (R:σ->σ'->Prop) (μ:σ->Nat) (T:τ->τ'->Prop)
  (h:∀ p q,R p q->(∃ p' q',f p=some (.inl p')/\g q=some (.inl q')/\R p' q'/\μ p'<μ p)\/∃ r s,f p=some (.inr r)/\g q=some (.inr s)/\T r s) {p:σ} {q:σ'} (hR:R p q) (hμ:μ p<yn) :
  ∃ r s,zP f p=some r/\zP g q=some s/\T r s:=by
 have key:∀ n p q,R p q->μ p<n->∃ r s,iter f n p=some r/\iter g n q=some s/\T r s:=by
  intro n
  induction n with
  | zero=>intro p q _ h0;omega
  | succ n ih =>
   intro p q hR hn
   rcases h p q hR with ⟨p',q',h1,h2,h3,h4⟩ | ⟨r,s,h1,h2,h3⟩
   ·obtain ⟨r,s,g1,g2,g3⟩:=ih p' q' h3 (by omega)
    exact ⟨r,s,by simp only [iter,h1,g1],by simp only [iter,h2,g2],g3⟩
   ·exact ⟨r,s,by simp only [iter,h1],by simp only [iter,h2],h3⟩
 exact key yn p q hR hμ
theorem foldS_anyF {α τ:Type} (b:α->Bool) (r z:τ):∀ l:List α,zd (λa (_:Unit)=>(cond (b a) (.inr r) (.inl ()):Unit⊕τ)) (λ_=>z) () l=cond (l.any b) r z
 | []=>rfl
 | a::t=>by
  simp only [zd,List.any_cons]
  cases h:b a with
  | true=>rfl
  | false=>simp only [zJ,Bool.false_or];exact foldS_anyF b r z t
theorem F35_big (l:List UInt8) (h:l.length<=1050000):F35 ((l,()),())=some ((),(l,())):=by
 have hb:zC (0+l.length) 1=true:=zT (by omega)
 cases l with
 | nil=>simp only [F35,List.isEmpty_nil,zG,hb,List.append_nil,zR]
 | cons a t=>simp only [F35,List.isEmpty_cons,zJ,hb,zG,List.nil_append]
abbrev btz (d:Dd):List UInt8:=d.2.2.2.2.2.2.2.2.2.1
theorem F34_eq (l:List Dd) (h:l.length<=100):F34 ((l,()),())=some ((),(l.map λx=>(false,x),())):=by
 have hb:zC (([]:List (Bool×Dd)).length+(l.map λx=>(false,x)).length) 120=true:=zT (by simp<;>omega)
 cases l with
 | nil=>simp only [F34,List.isEmpty_nil,zG,List.map_nil,List.append_nil,List.length_nil,show zC (0+0) 120=true by rfl,zR]
 | cons a t=>simp only [F34,List.isEmpty_cons,zJ,hb,zG,List.nil_append]
def mark (l:List Dd) (i:Nat):List (Bool×Dd):=(l.take i).map (λx=>(true,x))++(l.drop i).map λx=>(false,x)
theorem mark_len (l:List Dd) (i:Nat):(mark l i).length=l.length:=by
 simp only [mark,yU,List.length_map,y4,tB];omega
theorem mark_step {l:List Dd} {i:Nat} (h:i<l.length):(mark l i).getD i (true,nod)=(false,l[i])/\(mark l i).set i (true,l[i])=mark l (i+1):=by
 have hd:l.drop i=l[i]::l.drop (i+1):=List.drop_eq_getElem_cons h
 have hlen:((l.take i).map λx=>((true,x):Bool×Dd)).length=i:=by simp;omega
 have ht:l.take (i+1)=l.take i++[l[i]]:=by rw [List.take_succ_eq_append_getElem h]
 unfold mark
 rw [hd,List.map_cons]
 constructor
 ·rw [xk,List.getElem?_append_right (by omega),hlen,Nat.sub_self];rfl
 ·rw [List.set_append_right _ _ (by omega),hlen,Nat.sub_self,List.set_cons_zero,ht,List.map_append,lAs];rfl
theorem F24_eq (l:List Dd) (hl:l.length<=100) (hb:∀ d∈l,(btz d).length<=1050000):F24 ((l,()),())=some ((),(l,())):=by
 have hF:=zK
 have e55:=F34_eq l hl
 obtain ⟨r,h1,rfl⟩:=yE (f:=B24_0) (p:=(((),((l.length:Nat):Int),(0:Int),()),(mark l 0,())))
  (λp=>∃ i:Nat,i<=l.length/\p=(((),((l.length:Nat):Int),(i:Int),()),(mark l i,()))) (λp=>l.length-p.1.2.2.1.toNat)
  (λr=>r=(((),()),(l.map (λx=>(true,x)),())))
  (λp ⟨i,hi,hp⟩=>by
   subst hp
   rcases Nat.lt_or_ge i l.length with h | h
   ·left
    have d0:decide ((i:Int)<((l.length:Nat):Int))=true:=zW (by omega)
    have d1:decide ((0:Int)<=(i:Int))=true:=zW (by omega)
    have d2:decide ((i:Int)<(((mark l i).length:Nat):Int))=true:=zW (by rw [mark_len];omega)
    have w1:zX ((i:Int)+1)=((i+1:Nat):Int):=by rw [zO (by omega) (by omega)];rfl
    obtain ⟨m1,m2⟩:=mark_step h
    have e54:=F35_big (btz l[i]) (hb _ (List.getElem_mem h))
    refine ⟨(((),((l.length:Nat):Int),((i+1:Nat):Int),()),(mark l (i+1),())),?_,⟨i+1,h,rfl⟩,by simp only;omega⟩
    have hm1:(mark l i).getD i (true,((0:Int),(([]:List UInt8),(([]:List UInt8),(([]:List UInt8),((0:Int),((0:Int),((0:UInt8),((0:Int),((0:Int),(([]:List UInt8),()))))))))))) =(false,l[i]):=m1
    simp only [B24_0,d0,d1,d2,z8,zG,zr,hm1,e54,zE,w1]
    rw [<- m2]
   ·right
    have d0:decide ((i:Int)<((l.length:Nat):Int))=false:=zz (by omega)
    have:i=l.length:=by omega
    refine ⟨(((),()),(mark l i,())),by simp only [B24_0,d0,zJ],?_⟩
    rw [this]
    simp [mark]) ⟨0,Nat.zero_le _,rfl⟩ (by simp only;omega)
 have hL:L24_0 (((),((l.length:Nat):Int),(0:Int),()),(l.map (λx=>(false,x)),()))=some (((),()),(l.map (λx=>(true,x)),())):=by
  have:mark l 0=l.map λx=>(false,x):=by simp [mark]
  rw [this] at h1
  exact h1
 have hall:(l.map λx=>((true,x):Bool×Dd)).all (λp=>p.1)=true:=by simp
 have hsnd:(l.map λx=>((true,x):Bool×Dd)).map (λp=>p.2)=l:=by rw [List.map_map];exact List.map_id _
 simp only [F24,e55,zE,List.length_map,hL,hall,zG,hsnd]
abbrev Mk:Type:=Int×Int×Int×Int×Int×Int×List Dd×List Int×Tx×List UInt8×Int×Unit
structure JOK (J:yy) (last:Int):Prop where
 rise:J.Pairwise λa b=>a.1<b.1
 top:∀ x∈J,x.1<=last
 end':(J=[]/\last=0)\/∃ A j,J=A++[j]/\last=j.1
 pos:0<=last
 each:∀ x∈J,JobOK x.2.1
theorem JOK.nil:JOK [] 0:=⟨List.Pairwise.nil,nofun,.inl ⟨rfl,rfl⟩,Int.le_refl _,nofun⟩
theorem JOK.set {A B:yy} {n last:Int} {j j':Jb} (h:JOK (A++(n,j)::B) last) (hj:JobOK j'.1):JOK (A++(n,j')::B) last:=by
 obtain ⟨h1,h2,h3,h4,h5⟩:=h
 obtain ⟨p1,p2,p3⟩:=List.pairwise_append.1 h1
 obtain ⟨p4,p5⟩:=List.pairwise_cons.1 p2
 refine ⟨List.pairwise_append.2 ⟨p1,List.pairwise_cons.2 ⟨λx hx=>p4 x hx,p5⟩,λa ha b hb=>?_⟩,λx hx=>?_,?_,h4,λx hx=>?_⟩
 ·rcases List.mem_cons.1 hb with rfl | hb
  ·exact p3 a ha (n,j) (by simp)
  ·exact p3 a ha b (List.mem_cons_of_mem _ hb)
 ·rcases List.mem_append.1 hx with hx | hx
  ·exact h2 x (List.mem_append_left _ hx)
  ·rcases List.mem_cons.1 hx with rfl | hx
   ·exact h2 (n,j) (by simp)
   ·exact h2 x (by simp [hx])
 ·right
  rcases h3 with ⟨h3,_⟩ | ⟨C,k,h3,h6⟩
  ·simp at h3
  ·rcases List.eq_nil_or_concat B with rfl | ⟨B',b,rfl⟩
   ·have:=List.append_inj' h3 rfl
    have h8:(n,j)=k:=by simpa using this.2
    exact ⟨A,(n,j'),rfl,by rw [h6,<- h8]⟩
   ·refine ⟨A++(n,j')::B',b,by simp,?_⟩
    have h7:(A++(n,j)::B')++[b]=C++[k]:=by rw [<- h3];simp
    have:=(List.append_inj' h7 rfl).2
    simp only [List.cons.injEq,and_true] at this
    rw [h6,this]
 ·rcases List.mem_append.1 hx with hx | hx
  ·exact h5 x (List.mem_append_left _ hx)
  ·rcases List.mem_cons.1 hx with rfl | hx
   ·exact hj
   ·exact h5 x (by simp [hx])
def Stp (um:Um) (J:yy) (last:Int) (m:Mk) (e:Int) (um':Um) (J':yy) (last':Int):Prop :=
 (e≠0/\um'=um/\J'=J/\last'=last) \/
 (e=0/\((m.1=1/\last<m.2.1/\last'=m.2.1/\um'=um/\∃ D,J'=J++[(m.2.1,(D,(false,(false,()))))]) \/
  (m.1=2/\last'=last/\∃ A B D,J=A++(m.2.1,(D,(false,(false,()))))::B/\J'=A++(m.2.1,(D,(true,(false,()))))::B) \/
  (m.1=3/\last'=last/\um'=um/\∃ A B D dn,J=A++(m.2.1,(D,(dn,(false,()))))::B/\J'=A++(m.2.1,(D,(dn,(true,()))))::B/\(m.2.2.2.2.2.2.2.2.2.2.1=0<->dn=true)) \/
  (m.1=4/\last'=last/\um'=um/\J'=J)))
structure Took (um:Um) (J:yy) (last:Int) (L:List RS) (m:Mk) (e:Int) (um':Um) (J':yy) (last':Int) (L':List RS):Prop where
 did:F7 ((true,m,()),(((),(),last,()),um,J,()))=some (e,(((),(),last',()),um',J',()))
 ref:uT (((),m,()),((L,J,()),()))=some (e,((L',J',()),()))
 rel:RelF um' L'
 jobs:JOK J' last'
 len:L'.length<=L.length+12
 jlen:J'.length<=J.length+1
 stp:Stp um J last m e um' J' last'
structure SmM (m:Mk):Prop where
 deeds:m.2.2.2.2.2.2.1.length<=1050000
 each:∀ d∈m.2.2.2.2.2.2.1,Small3 d
 btz:∀ d∈m.2.2.2.2.2.2.1,(btz d).length<=1050000
 nums:m.2.2.2.2.2.2.2.1.length<=1050000
theorem wish_both {um:Um} {J:yy} {last:Int} {L:List RS} (_R:RelF um L) (K:JOK J last) (m:Mk) (S:SmM m) (hJ:J.length<=10000000) (hs:m.1=1) :
  ∃ e J' last',F14 ((true,m,()),(((),(),last,()),um,J,()))=some (e,(((),(),last',()),um,J',()))/\uT (((),m,()),((L,J,()),()))=some (e,((L,J',()),()))/\JOK J' last'/\J'.length<=J.length+1/\Stp um J last m e um J' last':=by
 have hF:=zK
 obtain ⟨sg,n,cn,tn,tb,tt,D,N,us,by',er,⟨⟩⟩:=m
 obtain ⟨s1,s2,s3,s4⟩:=S
 simp only at s1 s2 s3 s4 hs
 subst hs
 have hpos:=K.pos
 have hlast:(decide (0<((J.length:Nat):Int))&&decide (n<=(J.getD (Int.toNat (zX (((J.length:Nat):Int)-1))) noj).1))=(decide (n<=last)&&decide (J≠[])):=by
  rcases K.end' with ⟨rfl,_⟩ | ⟨A,j,rfl,h2⟩
  ·simp
  ·have w:zX ((((A++[j]).length:Nat):Int)-1)=((A.length:Nat):Int):=by
    rw [yU,va,zO (by omega) (by simp only [yU,va] at hJ;omega)];omega
   have g:(A++[j]).getD A.length noj=j:=by simp
   rw [w,zr,g,h2]
   simp
 have hin:((decide ((0:Int)<=zX (((J.length:Nat):Int)-1))&&decide (zX (((J.length:Nat):Int)-1)<((J.length:Nat):Int)))||!(decide ((0:Int)<((J.length:Nat):Int))&&!decide (n<1)))=true:=by
  have w:zX (((J.length:Nat):Int)-1)=((J.length:Nat):Int)-1:=zO (by omega) (by omega)
  rw [w]
  rcases Nat.eq_zero_or_pos J.length with h | h
  ·simp [h]
  ·simp;left;omega
 have hor:(decide (n<1)||(decide (0<((J.length:Nat):Int))&&decide (n<=(J.getD (Int.toNat (zX (((J.length:Nat):Int)-1))) noj).1)))=(decide (n<1)||decide (n<=last)):=by
  rw [hlast]
  rcases K.end' with ⟨rfl,h2⟩ | ⟨A,j,rfl,h2⟩
  ·rw [h2]
   by_cases hn:n<1
   ·simp [hn]
   ·simp [hn];omega
  ·simp
 by_cases hbad:(decide (n<1)||decide (n<=last))=true
 ·refine ⟨2,J,last,?_,?_,K,by omega,.inl ⟨by decide,rfl,rfl,rfl⟩⟩
  ·simp only [F14,Bool.true_or,zG,hbad]
  ·simp only [uT,zU,zG,hin]
   rw [hor,hbad]
   simp only [zG]
 ·have hbad':(decide (n<1)||decide (n<=last))=false:=by simpa using hbad
  by_cases hlen:D.length=0\/12<D.length
  ·refine ⟨4,J,last,?_,?_,K,by omega,.inl ⟨by decide,rfl,rfl,rfl⟩⟩
   ·have c:(decide (((D.length:Nat):Int)=0)||decide ((12:Int)<((D.length:Nat):Int)))=true:=by
     rcases hlen with h | h
     ·simp [h]
     ·have:decide ((12:Int)<((D.length:Nat):Int))=true:=zW (by omega)
      rw [this,Bool.or_true]
    simp only [F14,Bool.true_or,zG,hbad',zJ,c]
   ·have c:(decide (((D.length:Nat):Int)<1)||decide ((12:Int)<((D.length:Nat):Int)))=true:=by
     rcases hlen with h | h
     ·simp [h]
     ·have:decide ((12:Int)<((D.length:Nat):Int))=true:=zW (by omega)
      rw [this,Bool.or_true]
    simp only [uT,zU,zG,hin]
    rw [hor,hbad']
    simp only [zJ,c,zG]
  ·rw [not_or] at hlen
   have c1:(decide (((D.length:Nat):Int)=0)||decide ((12:Int)<((D.length:Nat):Int)))=false:=by
    rw [zz (by omega),zz (by omega)];rfl
   have c2:(decide (((D.length:Nat):Int)<1)||decide ((12:Int)<((D.length:Nat):Int)))=false:=by
    rw [zz (by omega),zz (by omega)];rfl
   let bad:Dd->Bool:=λd=>decide (d.1=8)||(decide (d.1=9)&&decide ((1:Int)<((D.length:Nat):Int)))
   have e27:L14_0 ((true,(),D,((D.length:Nat):Int),(0:Int),()),(((),(),last,()),um,J,((1:Int),n,cn,tn,tb,tt,D,N,us,by',er,()),())) =
     some (cond (D.any bad) (.inr ((true,(),()),(((),(),last,()),um,J,()))) (.inl ((true,(),()),(((),(),last,()),um,J,((1:Int),n,cn,tn,tb,tt,D,N,us,by',er,()),())))):=by
    unfold L14_0
    rw [<- foldS_anyF]
    refine yL (f:=B14_0) (λ(_:Unit) i=>((true,(),D,((D.length:Nat):Int),(i:Int),()),(((),(),last,()),um,J,((1:Int),n,cn,tn,tb,tt,D,N,us,by',er,()),()))) D _ _ (λb i a hi ha=>?_) (λb=>?_) (by omega)
    ·have d0:decide ((i:Int)<((D.length:Nat):Int))=true:=zW (by omega)
     have d1:decide ((0:Int)<=(i:Int))=true:=zW (by omega)
     have w1:zX ((i:Int)+1)=((i+1:Nat):Int):=by rw [zO (by omega) (by omega)];rfl
     simp only [B14_0,d0,d1,z8,zG,zr,ha,zE,w1]
     show cond (bad a) _ _=_
     cases bad a <;> rfl
    ·simp only [B14_0,Int.lt_irrefl,yp,zJ]
   have hbe:∀ d:Dd,(decide (d.1=8)||(decide (d.1=9)&&!decide (((D.length:Nat):Int)=1)))=bad d:=λd=>by
    have:(!decide (((D.length:Nat):Int)=1))=decide ((1:Int)<((D.length:Nat):Int)):=by
     by_cases h:D.length=1
     ·simp [h]
     ·rw [zz (by omega),zW (by omega)];rfl
    rw [this]
   have e16:L316_0 (((),(),(0:Int),()),((L,J,()),((1:Int),n,cn,tn,tb,tt,D,N,us,by',er,()),())) =
     some (cond (D.any bad) (.inr (((),(),()),((L,J,()),()))) (.inl (((),(),()),((L,J,()),((1:Int),n,cn,tn,tb,tt,D,N,us,by',er,()),())))):=by
    unfold L316_0
    rw [<- foldS_anyF]
    refine yL (f:=B316_0) (λ(_:Unit) i=>(((),(),(i:Int),()),((L,J,()),((1:Int),n,cn,tn,tb,tt,D,N,us,by',er,()),()))) D _ _ (λb i a hi ha=>?_) (λb=>?_) (by omega)
    ·have d0:decide ((i:Int)<((D.length:Nat):Int))=true:=zW (by omega)
     have d1:decide ((0:Int)<=(i:Int))=true:=zW (by omega)
     have w1:zX ((i:Int)+1)=((i+1:Nat):Int):=by rw [zO (by omega) (by omega)];rfl
     simp only [B316_0,d0,d1,z8,Bool.true_or,zG,zr,ha,w1,hbe]
     cases bad a <;> rfl
    ·simp only [B316_0,Int.lt_irrefl,yp,zJ]
   cases hb:D.any bad with
   | true =>
    rw [hb,zG] at e27 e16
    refine ⟨4,J,last,?_,?_,K,by omega,.inl ⟨by decide,rfl,rfl,rfl⟩⟩
    ·simp only [F14,Bool.true_or,zG,hbad',zJ,c1,e27,zE]
    ·simp only [uT,zU,zG,hin]
     rw [hor,hbad']
     simp only [zJ,c2,e16,zE]
   | false =>
    rw [hb,zJ] at e27 e16
    have hD:JobOK D:=⟨by omega,by omega,λd hd h9=>by
     have hbd:=List.any_eq_false.1 hb d hd
     have c9:decide (d.1=9)=true:=zW h9
     have h8:decide (d.1=8)=false:=zz (by omega)
     simp only [bad,h8,c9,Bool.false_or,Bool.true_and,xX] at hbd
     omega⟩
    have e40:=F24_eq D (by omega) s3
    have e161:L316_1 (((),(),(),(0:Int),()),((L,J,()),((1:Int),n,cn,tn,tb,tt,D,N,us,by',er,()),([]:List Dd),()))=some (((),(),(),()),((L,J,()),((1:Int),n,cn,tn,tb,tt,D,N,us,by',er,()),D,())):=by
     unfold L316_1
     refine (zs (f:=B316_1) (λ(o:List Dd) i=>(((),(),(),(i:Int),()),((L,J,()),((1:Int),n,cn,tn,tb,tt,D,N,us,by',er,()),o,()))) D (λa o=>.inl (o++[a])) (λo=>(((),(),(),()),((L,J,()),((1:Int),n,cn,tn,tb,tt,D,N,us,by',er,()),o,())))
      (λo i=>o.length<=i) (λo i a hI hi ha=>?_) (λo _=>?_) (by omega) (b:=[]) (by simp)).trans ?_
     ·have hm:a∈D:=by
       have:=ha nod
       rw [wT hi] at this
       rw [<- this]
       exact List.getElem_mem hi
      have hba:=s3 a hm
      refine .inl ⟨_,rfl,by rw [yU,va];omega,?_⟩
      obtain ⟨a1,a2,a3,a4,a5,a6,a7,a8,a9,a10,⟨⟩⟩:=a
      have d0:decide ((i:Int)<((D.length:Nat):Int))=true:=zW (by omega)
      have d1:decide ((0:Int)<=(i:Int))=true:=zW (by omega)
      have w1:zX ((i:Int)+1)=((i+1:Nat):Int):=by rw [zO (by omega) (by omega)];rfl
      have hba':a10.length<=1050000:=hba
      have b1:zC (0+a10.length) 1=true:=zT (by omega)
      have b2:zC (o.length+[(a1,(a2,(a3,(a4,(a5,(a6,(a7,(a8,(a9,(a10,()))))))))))].length) 120=true:=zT (by simp only [va];omega)
      have ha':=ha nod
      simp only [B316_1,d0,d1,z8,zG,zr,ha',zE,b1,List.nil_append,b2,w1]
     ·simp only [B316_1,Int.lt_irrefl,yp,zJ]
     ·have:∀ (l o:List Dd),zd (λ(a:Dd) (o:List Dd)=>(.inl (o++[a]):List Dd⊕_)) (λo=>(((),(),(),()),((L,J,()),((1:Int),n,cn,tn,tb,tt,D,N,us,by',er,()),o,()))) o l=(((),(),(),()),((L,J,()),((1:Int),n,cn,tn,tb,tt,D,N,us,by',er,()),o++l,())):=λl=>by
       induction l with
       | nil=>intro o;simp [zd]
       | cons a t ih=>intro o;simp only [zd];rw [ih];simp
      rw [this,List.nil_append]
    rw [Bool.or_eq_false_iff] at hbad'
    have hn1:1<=n:=by have:=of_decide_eq_false hbad'.1;omega
    have hnl:last<n:=by have:=of_decide_eq_false hbad'.2;omega
    obtain ⟨_,hset⟩:=jget_no (J:=J) (n:=n) λx hx=>by have:=K.top x hx;omega
    refine ⟨0,J++[(n,(D,(false,(false,()))))],n,?_,?_,⟨List.pairwise_append.2 ⟨K.rise,List.pairwise_singleton _ _,λa ha b hb'=>?_⟩,λx hx=>?_,.inr ⟨J,_,rfl,rfl⟩,by omega,λx hx=>?_⟩,by simp,.inr ⟨rfl,.inl ⟨rfl,hnl,rfl,rfl,D,rfl⟩⟩⟩
    ·simp only [F14,Bool.true_or,zG,hbad',Bool.or_self,zJ,c1,e27,zE,e40,hset]
    ·have b1:zC (([]:yy).length+J.length) 40=true:=zT (by simp only [List.length_nil];omega)
     have b2:zC (J.length+[(n,(D,(false,(false,()))))].length) 40=true:=zT (by simp only [va];omega)
     simp only [uT,zU,zG,hin]
     rw [hor,hbad'.1,hbad'.2]
     simp only [Bool.or_self,zJ,c2,e16,zE,e161,b1,zG,List.nil_append,b2,zR]
    ·rw [List.mem_singleton.1 hb']
     have:=K.top a ha
     show a.1<n
     omega
    ·rcases List.mem_append.1 hx with hx | hx
     ·have:=K.top x hx;omega
     ·rw [List.mem_singleton.1 hx];exact Int.le_refl _
    ·rcases List.mem_append.1 hx with hx | hx
     ·exact K.each x hx
     ·rw [List.mem_singleton.1 hx];exact hD
theorem runs_both {um:Um} {L:List RS} (R:RelF um L) (J:yy) (last:Int) (m:Mk) (S:SmM m) (j3:Jb) (j4:Int×Jb) (ix:Int) (h12:m.2.2.2.2.2.2.1.length<=12) (hN:m.2.2.2.2.2.2.2.1.length=m.2.2.2.2.2.2.1.length) (hL:L.length<=90000000) :
    ∃ r s,L15_0 ((true,(),(),true,m.2.2.2.2.2.2.1,((m.2.2.2.2.2.2.1.length:Nat):Int),(0:Int),()),(((),(),last,()),um,J,m,(j3.1,j3.2.1,j3.2.2.1,()),((),(),last,()),um,J,()))=some r /\
      L331_0 (((),(),ix,(),L,(0:Int),()),((L,J,()),m,(j4.1,j4.2.1,j4.2.2.1,j4.2.2.2.1,()),()))=some s /\
      ((r=.inr ((true,(),()),(((),(),last,()),um,J,()))/\s=.inr (((),(),()),((L,J,()),()))) \/
       ∃ um' L',r=.inl ((true,(),(),true,()),(((),(),last,()),um,J,m,(j3.1,j3.2.1,j3.2.2.1,()),((),(),last,()),um',J,())) /\
         s=.inl (((),ix,(),L',()),((L,J,()),(j4.1,j4.2.1,j4.2.2.1,j4.2.2.2.1,()),()))/\RelF um' L'/\L'.length<=L.length+12):=by
  have hF:=zK
  obtain ⟨sg,n,cn,tn,tb,tt,D,N,us,by',er,⟨⟩⟩:=m
  obtain ⟨s1,s2,s3,s4⟩:=S
  simp only at s1 s2 s3 s4 h12 hN
  unfold L15_0 L331_0
  refine loops (f:=B15_0) (g:=B331_0)
    (p:=((true,(),(),true,D,((D.length:Nat):Int),(0:Int),()),(((),(),last,()),um,J,(sg,n,cn,tn,tb,tt,D,N,us,by',er,()),(j3.1,j3.2.1,j3.2.2.1,()),((),(),last,()),um,J,())))
    (q:=(((),(),ix,(),L,(0:Int),()),((L,J,()),(sg,n,cn,tn,tb,tt,D,N,us,by',er,()),(j4.1,j4.2.1,j4.2.2.1,j4.2.2.2.1,()),())))
    (λp q=>∃ (i:Nat) (um':Um) (L':List RS),i<=D.length/\RelF um' L'/\L'.length<=L.length+i /\
      p=((true,(),(),true,D,((D.length:Nat):Int),(i:Int),()),(((),(),last,()),um,J,(sg,n,cn,tn,tb,tt,D,N,us,by',er,()),(j3.1,j3.2.1,j3.2.2.1,()),((),(),last,()),um',J,())) /\
      q=(((),(),ix,(),L',(i:Int),()),((L,J,()),(sg,n,cn,tn,tb,tt,D,N,us,by',er,()),(j4.1,j4.2.1,j4.2.2.1,j4.2.2.2.1,()),())))
    (λp=>D.length-p.1.2.2.2.2.2.2.1.toNat)
    (λr s=>(r=.inr ((true,(),()),(((),(),last,()),um,J,()))/\s=.inr (((),(),()),((L,J,()),()))) \/
       ∃ um' L',r=.inl ((true,(),(),true,()),(((),(),last,()),um,J,(sg,n,cn,tn,tb,tt,D,N,us,by',er,()),(j3.1,j3.2.1,j3.2.2.1,()),((),(),last,()),um',J,())) /\
         s=.inl (((),ix,(),L',()),((L,J,()),(j4.1,j4.2.1,j4.2.2.1,j4.2.2.2.1,()),()))/\RelF um' L'/\L'.length<=L.length+12)
    (λp q ⟨i,um',L',hi,R',hl,hp,hq⟩=>?_) ⟨0,um,L,Nat.zero_le _,R,Nat.le_refl _,rfl,rfl⟩ (by simp only;omega)
  subst hp hq
  rcases Nat.lt_or_ge i D.length with h | h
  . have d0:decide ((i:Int)<((D.length:Nat):Int))=true:=zW (by omega)
    have d1:decide ((0:Int)<=(i:Int))=true:=zW (by omega)
    have d2:decide ((i:Int)<((N.length:Nat):Int))=true:=zW (by omega)
    have w1:zX ((i:Int)+1)=((i+1:Nat):Int):=by rw [zO (by omega) (by omega)];rfl
    obtain ⟨k,ok,um2,L2,O⟩:=one_both R' J last D[i] (s2 _ (List.getElem_mem h)) (by omega)
    have hg:D.getD i nod=D[i]:=wT h
    obtain ⟨o1,o2,o3,o4,o5⟩:=O
    cases hbad:(!ok||!decide (k=N.getD i 0)) with
    | true =>
      right
      refine ⟨_,_,?_,?_,.inl ⟨rfl,rfl⟩⟩
      . generalize hd:D[i]=d at o1 hg
        simp only [B15_0,d0,d1,d2,z8,Bool.true_or,zG,zr,zE,hg,o1,hbad]
      . generalize hd:D[i]=d at o2 hg
        simp only [B331_0,d0,d1,d2,z8,Bool.true_or,zG,zr,zE,hg,o2,hbad]
    | false =>
      left
      have hok:ok=true:=by cases ok <;> simp_all
      subst hok
      refine ⟨((true,(),(),true,D,((D.length:Nat):Int),((i+1:Nat):Int),()),(((),(),last,()),um,J,(sg,n,cn,tn,tb,tt,D,N,us,by',er,()),(j3.1,j3.2.1,j3.2.2.1,()),((),(),last,()),um2,J,())),
        (((),(),ix,(),L2,((i+1:Nat):Int),()),((L,J,()),(sg,n,cn,tn,tb,tt,D,N,us,by',er,()),(j4.1,j4.2.1,j4.2.2.1,j4.2.2.2.1,()),())),?_,?_,⟨i+1,um2,L2,h,o3,by omega,rfl,rfl⟩,by simp only;omega⟩
      . generalize hd:D[i]=d at o1 hg
        simp only [B15_0,d0,d1,d2,z8,Bool.true_or,zG,zJ,zr,zE,hg,o1,hbad,w1]
      . generalize hd:D[i]=d at o2 hg
        simp only [B331_0,d0,d1,d2,z8,Bool.true_or,zG,zJ,zr,zE,hg,o2,hbad,w1]
  . right
    have d0:decide ((i:Int)<((D.length:Nat):Int))=false:=zz (by omega)
    refine ⟨_,_,?_,?_,.inr ⟨um',L',rfl,rfl,R',by omega⟩⟩
    . simp only [B15_0,d0,zJ]
    . simp only [B331_0,d0,zJ]
abbrev T31 (s:((Unit×Int×Unit×List RS×Unit)×((List RS×yy×Unit)×((Int×List Dd×Bool×Bool×Unit)×Unit)))⊕((Unit×Unit×Unit)×((List RS×yy×Unit)×Unit))):Option (Int×((List RS×yy×Unit)×Unit)) :=
 match s with
 | .inl p=>(F333 (((),p.1.2.1,(p.2.2.1.1,p.2.2.1.2.1,true,p.2.2.1.2.2.2.1,()),()),((p.1.2.2.2.1,p.2.1.2.1,()),()))).bind λr=>some (0,((r.2.1.1,r.2.2.1,()),()))
 | .inr q=>some (4,((q.2.1.1,q.2.1.2.1,()),()))
noncomputable instance (D l:List Dd):Decidable (uI D l):=Classical.propDecidable _
theorem want_eq (a b:Dd):((a.1,(a.2.1,(a.2.2.1,(a.2.2.2.1,(a.2.2.2.2.1,(a.2.2.2.2.2.1,(a.2.2.2.2.2.2.1,(a.2.2.2.2.2.2.2.1,(b.2.2.2.2.2.2.2.2.1,(a.2.2.2.2.2.2.2.2.2.1,())))))))))):Dd)=b<->zep a=zep b:=by
 obtain ⟨a1,a2,a3,a4,a5,a6,a7,a8,a9,a10,⟨⟩⟩:=a
 obtain ⟨b1,b2,b3,b4,b5,b6,b7,b8,b9,b10,⟨⟩⟩:=b
 simp [zep]
theorem F331_eq {L:List RS} {J A B:yy} (m:Mk) {D0:List Dd} {dn an:Bool} (_hJ:J.length<=100000000) (hsp:J=A++(m.2.1,(D0,(dn,(an,()))))::B) (h32:F332 (((),m.2.1,()),((L,J,()),()))=some (((A.length:Nat):Int),((L,J,()),())))
  (hD:JobOK D0) (hl:m.2.2.2.2.2.2.1.length<=1050000) (hda:(dn||an)=false) {s} (hs:uI D0 m.2.2.2.2.2.2.1/\m.2.2.2.2.2.2.2.1.length=m.2.2.2.2.2.2.1.length->L331_0 (((),(),((A.length:Nat):Int),(),L,(0:Int),()),((L,J,()),m,(m.2.1,(D0,(dn,(an,())))),()))=some s) :
  (uI D0 m.2.2.2.2.2.2.1/\m.2.2.2.2.2.2.2.1.length=m.2.2.2.2.2.2.1.length->F331 (((),m,()),((L,J,()),()))=T31 s) /\
  (¬ (uI D0 m.2.2.2.2.2.2.1/\m.2.2.2.2.2.2.2.1.length=m.2.2.2.2.2.2.1.length)->F331 (((),m,()),((L,J,()),()))=some (4,((L,J,()),()))):=by
 obtain ⟨sg,n,cn,tn,tb,tt,D,N,us,by',er,⟨⟩⟩:=m
 simp only at hsp h32 hl hs ⊢
 have h1:=hD.some'
 have h2:=hD.few
 have i0:decide (((A.length:Nat):Int)<0)=false:=zz (by omega)
 have i1:decide ((0:Int)<=((A.length:Nat):Int))=true:=zW (by omega)
 have hAJ:A.length<J.length:=by rw [hsp];simp
 have i2:decide (((A.length:Nat):Int)<((J.length:Nat):Int))=true:=zW (by omega)
 have hgj:J.getD A.length noj=(n,(D0,(dn,(an,())))):=by rw [hsp];simp
 have b1:zC (([]:List Dd).length+D0.length) 120=true:=zT (by simp only [List.length_nil];omega)
 have p0:decide ((0:Int)<((D0.length:Nat):Int))=true:=zW (by omega)
 have hN:decide (((N.length:Nat):Int)=((D.length:Nat):Int))=decide (N.length=D.length):=by
  by_cases h:N.length=D.length
  ·simp [h]
  ·rw [zz (by omega),zz h]
 by_cases h9:(D0.getD 0 nod).1=9
 ·have hD1:D0.length=1:=hD.alone (D0.getD 0 nod) (by rw [wT (by omega)];exact List.getElem_mem _) h9
  obtain ⟨a,rfl⟩:=List.length_eq_one_iff.1 hD1
  have h9':a.1=9:=h9
  by_cases hl2:D.length=2
  ·match D,hl2 with
   | [b,e],_ =>
    have q2:decide ((([b,e].length:Nat):Int)=2)=true:=rfl
    have q1:decide ((1:Int)<(([b,e].length:Nat):Int))=true:=rfl
    have q0:decide ((0:Int)<(([b,e].length:Nat):Int))=true:=rfl
    have c9:decide ((List.getD [a] 0 nod).1=9)=true:=zW h9
    have hF:uI [a] [b,e]<->zep a=zep b/\e.1=8/\e.2.1=a.2.1/\e.2.2.2.2.2.2.2.2.1=b.2.2.2.2.2.2.2.2.1:=by
     unfold uI
     rw [if_pos h9]
     constructor
     ·rintro ⟨b',e',hh,g1,g2,g3,g4⟩
      simp only [List.cons.injEq,and_true] at hh
      obtain ⟨rfl,rfl⟩:=hh
      have g1':zep a=zep b:=g1
      exact ⟨g1',g2,by rw [g3];exact (congrArg (λx:Dd=>x.2.1) g1').symm,g4⟩
     ·rintro ⟨g1,g2,g3,g4⟩
      exact ⟨b,e,rfl,g1,g2,by rw [g3];show (zep a).2.1=(zep b).2.1;rw [g1],g4⟩
    have hone:∀ x:Dd,decide ((0:Int)<(([x].length:Nat):Int))=true:=λ_=>rfl
    have c9':decide (a.1=9)=true:=zW h9'
    cases hw:((!decide (e.1=8)||!decide (e.2.1=a.2.1))||!decide (e.2.2.2.2.2.2.2.2.1=b.2.2.2.2.2.2.2.2.1)) with
    | true =>
     have hno:¬ uI [a] [b,e]:=by
      rw [hF]
      rintro ⟨_,g2,g3,g4⟩
      rw [zW g2,zW g3,zW g4] at hw
      simp at hw
     refine ⟨λh=>absurd h.1 hno,λ_=>?_⟩
     simp only [F331,h32,zE,i0,zJ,i1,i2,z8,zG,zr,hgj,hda,b1,List.nil_append,p0,List.getD_cons_zero,c9',q2,zu,q0,q1,List.getD_cons_succ,List.set_cons_zero,hone,Bool.true_or,hw]
    | false =>
     simp only [Bool.or_eq_false_iff,Bool.not_eq_false',xX] at hw
     obtain ⟨⟨g2,g3⟩,g4⟩:=hw
     have hw:((!decide (e.1=8)||!decide (e.2.1=a.2.1))||!decide (e.2.2.2.2.2.2.2.2.1=b.2.2.2.2.2.2.2.2.1))=false:=by
      rw [zW g2,zW g3,zW g4];rfl
     have b2:zC ([((a.1,(a.2.1,(a.2.2.1,(a.2.2.2.1,(a.2.2.2.2.1,(a.2.2.2.2.2.1,(a.2.2.2.2.2.2.1,(a.2.2.2.2.2.2.2.1,(b.2.2.2.2.2.2.2.2.1,(a.2.2.2.2.2.2.2.2.2.1,())))))))))):Dd)].length+[e].length) 120=true:=rfl
     have e45:=F345_eq ([((a.1,(a.2.1,(a.2.2.1,(a.2.2.2.1,(a.2.2.2.2.1,(a.2.2.2.2.2.1,(a.2.2.2.2.2.2.1,(a.2.2.2.2.2.2.2.1,(b.2.2.2.2.2.2.2.2.1,(a.2.2.2.2.2.2.2.2.2.1,())))))))))):Dd)]++[e]) [b,e] (by simp)
     have hq:decide ([((a.1,(a.2.1,(a.2.2.1,(a.2.2.2.1,(a.2.2.2.2.1,(a.2.2.2.2.2.1,(a.2.2.2.2.2.2.1,(a.2.2.2.2.2.2.2.1,(b.2.2.2.2.2.2.2.2.1,(a.2.2.2.2.2.2.2.2.2.1,())))))))))):Dd)]++[e]=[b,e])=decide (uI [a] [b,e]):=by
      congr 1
      rw [hF]
      simp only [List.cons_append,List.nil_append,List.cons.injEq,and_true,want_eq,eq_iff_iff]
      exact ⟨λh=>⟨h,g2,g3,g4⟩,λh=>h.1⟩
     rw [hq] at e45
     constructor
     ·intro hf
      have hs':=hs hf
      rw [zW hf.1] at e45
      have hn':decide ((N.length:Int)=(([b,e].length:Nat):Int))=true:=by rw [hN];exact zW hf.2
      simp only [F331,h32,zE,i0,zJ,i1,i2,z8,zG,zr,hgj,hda,b1,List.nil_append,p0,List.getD_cons_zero,c9',q2,zu,q0,q1,List.getD_cons_succ,List.set_cons_zero,hone,Bool.true_or,hw,b2,e45,hn',Bool.or_self,hs']
      cases s <;> rfl
     ·intro hf
      have hc:(!decide (uI [a] [b,e])||!decide ((N.length:Int)=(([b,e].length:Nat):Int)))=true:=by
       rw [hN]
       by_cases g:uI [a] [b,e]
       ·rw [zz λh=>hf ⟨g,h⟩];simp
       ·simp [g]
      simp only [F331,h32,zE,i0,zJ,i1,i2,z8,zG,zr,hgj,hda,b1,List.nil_append,p0,List.getD_cons_zero,c9',q2,zu,q0,q1,List.getD_cons_succ,List.set_cons_zero,hone,Bool.true_or,hw,b2,e45,hc]
  ·have hno:¬ uI [a] D:=by
    unfold uI
    rw [if_pos h9]
    rintro ⟨b,e,rfl,_⟩
    exact hl2 rfl
   refine ⟨λh=>absurd h.1 hno,λ_=>?_⟩
   have q2:decide (((D.length:Nat):Int)=2)=false:=zz (by omega)
   have c9':decide (a.1=9)=true:=zW h9'
   simp only [F331,h32,zE,i0,zJ,i1,i2,z8,zG,zr,hgj,hda,b1,List.nil_append,p0,List.getD_cons_zero,c9',q2,yq]
 ·have c9:decide ((List.getD D0 0 nod).1=9)=false:=zz h9
  have hF:uI D0 D<->D0=D:=by unfold uI;rw [if_neg h9]
  have e45:=F345_eq D0 D (by omega)
  constructor
  ·intro hf
   have hs':=hs hf
   rw [zW (hF.1 hf.1)] at e45
   have hn':decide ((N.length:Int)=((D.length:Nat):Int))=true:=by rw [hN];exact zW hf.2
   simp only [F331,h32,zE,i0,zJ,i1,i2,z8,zG,zr,hgj,hda,b1,List.nil_append,p0,c9,e45,hn',zu,Bool.or_self,hs']
   cases s <;> rfl
  ·intro hf
   have hc:(!decide (D0=D)||!decide ((N.length:Int)=((D.length:Nat):Int)))=true:=by
    rw [hN]
    by_cases g:D0=D
    ·rw [zz λh=>hf ⟨hF.2 g,h⟩];simp
    ·simp [g]
   simp only [F331,h32,zE,i0,zJ,i1,i2,z8,zG,zr,hgj,hda,b1,List.nil_append,p0,c9,e45,hc]
theorem JOK.of {J:yy} {last:Int} (K:JOK J last) {A B:yy} {n:Int} {j:Jb} (h:J=A++(n,j)::B):JobOK j.1:=by
 have:=K.each (n,j) (by rw [h];simp)
 exact this
theorem did_both {um:Um} {J:yy} {last:Int} {L:List RS} (R:RelF um L) (K:JOK J last) (m:Mk) (S:SmM m) (hJ:J.length<=10000000) (hL:L.length<=90000000) (h2:m.1=2) :
  ∃ e um' J' L',F15 ((true,m,()),(((),(),last,()),um,J,()))=some (e,(((),(),last,()),um',J',()))/\F331 (((),m,()),((L,J,()),()))=some (e,((L',J',()),())) /\
   RelF um' L'/\JOK J' last/\L'.length<=L.length+12/\J'.length<=J.length+1/\Stp um J last m e um' J' last:=by
 have s1:=S.deeds
 rcases F332_eq L J m.2.1 (by omega) with ⟨A,B,j,hsp,hg,hset,h32⟩ | ⟨hg,h32⟩
 ·obtain ⟨D0,dn,an,⟨⟩⟩:=j
  have hD:JobOK D0:=K.of hsp
  have hAJ:A.length<J.length:=by rw [hsp];simp
  have i0:decide (((A.length:Nat):Int)<0)=false:=zz (by omega)
  have i1:decide ((0:Int)<=((A.length:Nat):Int))=true:=zW (by omega)
  have i2:decide (((A.length:Nat):Int)<((J.length:Nat):Int))=true:=zW (by omega)
  have hgj:J.getD A.length noj=(m.2.1,(D0,(dn,(an,())))):=by rw [hsp];simp
  cases hda:(dn||an) with
  | true =>
   refine ⟨13,um,J,L,?_,?_,R,K,by omega,by omega,.inl ⟨by decide,rfl,rfl,rfl⟩⟩
   ·obtain ⟨sg,n,cn,tn,tb,tt,D,N,us,by',er,⟨⟩⟩:=m
    simp only at hg hgj h32
    simp only [F15,zG,zJ,zR,hg,Option.isSome_some,Option.getD_some,zE,zu,hda]
   ·obtain ⟨sg,n,cn,tn,tb,tt,D,N,us,by',er,⟨⟩⟩:=m
    simp only at hg hgj h32
    simp only [F331,h32,zE,i0,zJ,i1,i2,z8,zG,zr,hgj,hda]
  | false =>
   obtain ⟨q,h41,hq⟩:=F25_eq hD m.2.2.2.2.2.2.1 dn an (by omega)
   by_cases hf:uI D0 m.2.2.2.2.2.2.1/\m.2.2.2.2.2.2.2.1.length=m.2.2.2.2.2.2.1.length
   ·have hq':q=true:=hq.2 hf.1
    subst hq'
    have h12:m.2.2.2.2.2.2.1.length<=12:=by
     have:=hf.1
     unfold uI at this
     split at this
     ·obtain ⟨b,e,h,_⟩:=this
      rw [h];simp
     ·rw [<- this];exact hD.few
    have hl:decide (((m.2.2.2.2.2.2.2.1.length:Nat):Int)=((m.2.2.2.2.2.2.1.length:Nat):Int))=true:=zW (by rw [hf.2])
    obtain ⟨r,s,g1,g2,g3⟩:=runs_both R J last m S (D0,(dn,(an,()))) (m.2.1,(D0,(dn,(an,())))) ((A.length:Nat):Int) h12 hf.2 hL
    obtain ⟨t1,_⟩:=F331_eq m (by omega) hsp h32 hD s1 hda (s:=s) λ_=>g2
    have t1:=t1 hf
    rcases g3 with ⟨rfl,rfl⟩ | ⟨um',L',rfl,rfl,g3,g4⟩
    ·refine ⟨4,um,J,L,?_,by rw [t1],R,K,by omega,by omega,.inl ⟨by decide,rfl,rfl,rfl⟩⟩
     obtain ⟨sg,n,cn,tn,tb,tt,D,N,us,by',er,⟨⟩⟩:=m
     simp only at hg hgj h32 h41 hl g1
     simp only [F15,zG,zJ,zR,hg,Option.isSome_some,Option.getD_some,zE,zu,hda,h41,hl,Bool.or_self,F6,zU,g1]
    ·have h33:=F333_eq L' A B m.2.1 (D0,(dn,(an,()))) (m.2.1,(D0,(true,(an,())))) (by rw [<- hsp];omega)
     rw [<- hsp] at h33
     have K':JOK (A++(m.2.1,(D0,(true,(an,()))))::B) last:=by
      rw [hsp] at K
      exact K.set hD
     refine ⟨0,um',A++(m.2.1,(D0,(true,(an,()))))::B,L',?_,?_,g3,K',g4,(by rw [hsp];simp),.inr ⟨rfl,.inr (.inl ⟨h2,rfl,A,B,D0,(by obtain ⟨e1,e2⟩:=Bool.or_eq_false_iff.1 hda;rw [hsp,e1,e2]),(by obtain ⟨e1,e2⟩:=Bool.or_eq_false_iff.1 hda;rw [e2])⟩)⟩⟩
     ·obtain ⟨sg,n,cn,tn,tb,tt,D,N,us,by',er,⟨⟩⟩:=m
      simp only at hg hgj h32 h41 hl g1 hset
      simp only [F15,zG,zJ,zR,hg,Option.isSome_some,Option.getD_some,zE,zu,hda,h41,hl,Bool.or_self,F6,zU,g1,hset]
     ·rw [t1]
      simp only [T31,h33,zE]
   ·obtain ⟨_,t2⟩:=F331_eq m (by omega) hsp h32 hD s1 hda (s:=.inr (((),(),()),((L,J,()),()))) λh=>absurd h hf
    refine ⟨4,um,J,L,?_,t2 hf,R,K,by omega,by omega,.inl ⟨by decide,rfl,rfl,rfl⟩⟩
    have hc:(!q||!decide (((m.2.2.2.2.2.2.2.1.length:Nat):Int)=((m.2.2.2.2.2.2.1.length:Nat):Int)))=true:=by
     cases q with
     | false=>rfl
     | true=>rw [zz λh=>hf ⟨hq.1 rfl,by omega⟩];rfl
    obtain ⟨sg,n,cn,tn,tb,tt,D,N,us,by',er,⟨⟩⟩:=m
    simp only at hg hgj h32 h41 hc
    simp only [F15,zG,zJ,zR,hg,Option.isSome_some,Option.getD_some,zE,zu,hda,h41,hc]
 ·refine ⟨9,um,J,L,?_,?_,R,K,by omega,by omega,.inl ⟨by decide,rfl,rfl,rfl⟩⟩
  ·obtain ⟨sg,n,cn,tn,tb,tt,D,N,us,by',er,⟨⟩⟩:=m
   simp only at hg h32
   simp only [F15,zG,zR,hg,Option.isSome_none,Option.getD_none,zE,yq]
  ·obtain ⟨sg,n,cn,tn,tb,tt,D,N,us,by',er,⟨⟩⟩:=m
   simp only at hg h32
   simp only [F331,h32,zE,show decide ((-1:Int)<0)=true by decide,zG]
theorem answer_both {um:Um} {J:yy} {last:Int} {L:List RS} (_R:RelF um L) (K:JOK J last) (m:Mk) (hJ:J.length<=10000000) (hs:m.1=3) :
  ∃ e J',F16 ((true,m,()),(((),(),last,()),um,J,()))=some (e,(((),(),last,()),um,J',()))/\uT (((),m,()),((L,J,()),()))=some (e,((L,J',()),())) /\
   JOK J' last/\J'.length<=J.length+1/\Stp um J last m e um J' last:=by
 rcases F332_eq L J m.2.1 (by omega) with ⟨A,B,j,hsp,hg,hset,h32⟩ | ⟨hg,h32⟩
 ·obtain ⟨D0,dn,an,⟨⟩⟩:=j
  have hD:JobOK D0:=K.of hsp
  have hAJ:A.length<J.length:=by rw [hsp];simp
  have i0:decide (((A.length:Nat):Int)<0)=false:=zz (by omega)
  have i1:decide ((0:Int)<=((A.length:Nat):Int))=true:=zW (by omega)
  have i2:decide (((A.length:Nat):Int)<((J.length:Nat):Int))=true:=zW (by omega)
  have hgj:J.getD A.length noj=(m.2.1,(D0,(dn,(an,())))):=by rw [hsp];simp
  obtain ⟨sg,n,cn,tn,tb,tt,D,N,us,by',er,⟨⟩⟩:=m
  simp only at hg hgj h32 hs hset hsp
  subst hs
  cases an with
  | true =>
   refine ⟨13,J,?_,?_,K,by omega,.inl ⟨by decide,rfl,rfl,rfl⟩⟩
   ·simp only [F16,zG,zJ,zR,hg,Option.isSome_some,Option.getD_some,zE,zu]
   ·simp only [uT,show decide ((3:Int)=1)=false by decide,show decide ((3:Int)=2)=false by decide,zU,h32,zE,i0,zJ,i1,i2,z8,zG,zr,hgj]
  | false =>
   by_cases he:decide (er=0)=dn
   ·have K':JOK (A++(n,(D0,(dn,(true,()))))::B) last:=by
     rw [hsp] at K
     exact K.set hD
    have h33:=F333_eq L A B n (D0,(dn,(false,()))) (n,(D0,(dn,(true,())))) (by rw [<- hsp];omega)
    rw [<- hsp] at h33
    refine ⟨0,A++(n,(D0,(dn,(true,()))))::B,?_,?_,K',(by rw [hsp];simp),.inr ⟨rfl,.inr (.inr (.inl ⟨rfl,rfl,rfl,A,B,D0,dn,hsp,rfl,by rw [<- he];simp⟩))⟩⟩
    ·simp only [F16,zG,zJ,zR,hg,Option.isSome_some,Option.getD_some,zE,zu,he,beq_self_eq_true,hset]
    ·simp only [uT,show decide ((3:Int)=1)=false by decide,show decide ((3:Int)=2)=false by decide,zU,h32,zE,i0,zJ,i1,i2,z8,zG,zr,hgj,he,beq_self_eq_true,zu,h33]
   ·have c1:(!(decide (er=0) == dn))=true:=by
     cases h:decide (er=0) <;> cases dn <;> simp_all
    have c2:(!(dn == decide (er=0)))=true:=by
     cases h:decide (er=0) <;> cases dn <;> simp_all
    refine ⟨4,J,?_,?_,K,by omega,.inl ⟨by decide,rfl,rfl,rfl⟩⟩
    ·simp only [F16,zG,zJ,zR,hg,Option.isSome_some,Option.getD_some,zE,zu,c1]
    ·simp only [uT,show decide ((3:Int)=1)=false by decide,show decide ((3:Int)=2)=false by decide,zU,h32,zE,i0,zJ,i1,i2,z8,zG,zr,hgj,c2]
 ·obtain ⟨sg,n,cn,tn,tb,tt,D,N,us,by',er,⟨⟩⟩:=m
  simp only at hg h32 hs
  subst hs
  refine ⟨9,J,?_,?_,K,by omega,.inl ⟨by decide,rfl,rfl,rfl⟩⟩
  ·simp only [F16,zG,zJ,zR,hg,Option.isSome_none,Option.getD_none,zE,yq]
  ·simp only [uT,show decide ((3:Int)=1)=false by decide,show decide ((3:Int)=2)=false by decide,zU,zG,zJ,h32,zE,show decide ((-1:Int)<0)=true by decide]
theorem saw_both {um:Um} {J:yy} {last:Int} {L:List RS} (R:RelF um L) (m:Mk) (hL:L.length<=99999999) (hs:m.1=4) :
  ∃ e,F17 ((true,m,()),(((),(),last,()),um,J,()))=some (e,(((),(),last,()),um,J,()))/\uT (((),m,()),((L,J,()),()))=some (e,((L,J,()),())):=by
 obtain ⟨sg,n,cn,tn,tb,tt,D,N,us,by',er,⟨⟩⟩:=m
 simp only at hs
 subst hs
 have n1:decide ((4:Int)=1)=false:=by decide
 have n2:decide ((4:Int)=2)=false:=by decide
 have n3:decide ((4:Int)=3)=false:=by decide
 have hS:=R.same us
 rcases F323_eq R.rise us (by omega) with ⟨A,s,B,hL',hn,hA,hB,h23⟩ | ⟨A,B,hL',hA,hB,h23⟩
 ·rw [hL',look_at hn hA] at hS
  obtain ⟨mm,hm,Rm⟩:=seat_is hS
  have hAl:A.length<L.length:=by rw [hL'];simp
  have d0:decide ((0:Int)<=((A.length:Nat):Int))=true:=zW (by omega)
  have d1:decide (((A.length:Nat):Int)<((L.length:Nat):Int))=true:=zW (by omega)
  have hg:L.getD A.length nos=s:=by rw [hL'];exact getA _
  obtain ⟨⟨un,uv,ls,⟨⟩⟩,ep,⟨⟩⟩:=s
  simp only at hn hm Rm
  have has:=as_eq Rm ep hn
  have G:Fine (un,uv,ls,()):=(Rm.fine.fine un (un,(uv,(ls,()))) (by rw [Rm.same];simp)).1
  have h34:=F334_eq G
  cases hq:decide (putU (un,uv,ls,())=by') with
  | true =>
   have hq':decide (by'=putU (un,uv,ls,()))=true:=zW (of_decide_eq_true hq).symm
   refine ⟨0,?_,?_⟩
   ·simp only [F17,zG,zJ,zR,hm,Option.isSome_some,Option.getD_some,zE,zu,has,F27_eq,hq']
   ·simp only [uT,n1,n2,n3,zU,zG,zJ,h23,zE,zu,d0,d1,z8,zr,hg,h34,hq]
  | false =>
   have hq':decide (by'=putU (un,uv,ls,()))=false:=zz λh=>of_decide_eq_false hq h.symm
   refine ⟨4,?_,?_⟩
   ·simp only [F17,zG,zJ,zR,hm,Option.isSome_some,Option.getD_some,zE,zu,yq,has,F27_eq,hq']
   ·simp only [uT,n1,n2,n3,zU,zG,zJ,h23,zE,zu,yq,d0,d1,z8,zr,hg,h34,hq]
 ·rw [hL',look_no hA hB] at hS
  have hm:=seat_no hS
  refine ⟨9,?_,?_⟩
  ·simp only [F17,zG,zR,hm,Option.isSome_none,Option.getD_none,zE,yq]
  ·simp only [uT,n1,n2,n3,zU,zG,zJ,h23,zE,yq]
theorem mark_both {um:Um} {J:yy} {last:Int} {L:List RS} (R:RelF um L) (K:JOK J last) (m:Mk) (S:SmM m) (hJ:J.length<=10000000) (hL:L.length<=90000000) :
  ∃ e um' J' last' L',Took um J last L m e um' J' last' L':=by
 by_cases h1:m.1=1
 ·obtain ⟨e,J',last',g1,g2,g3,g4,g9⟩:=wish_both R K m S hJ h1
  refine ⟨e,um,J',last',L,?_,g2,R,g3,by omega,g4,g9⟩
  obtain ⟨sg,n,cn,tn,tb,tt,D,N,us,by',er,⟨⟩⟩:=m
  simp only at h1
  subst h1
  simp only [F7,zu,zJ,zU,zG,g1,zE]
 ·by_cases h2:m.1=2
  ·obtain ⟨e,um',J',L',g1,g2,g3,g4,g5,g6,g9⟩:=did_both R K m S hJ hL h2
   obtain ⟨sg,n,cn,tn,tb,tt,D,N,us,by',er,⟨⟩⟩:=m
   simp only at h2
   subst h2
   refine ⟨e,um',J',last,L',?_,?_,g3,g4,g5,g6,g9⟩
   ·simp only [F7,zu,zJ,show decide ((2:Int)=1)=false by decide,zU,zG,g1,zE]
   ·simp only [uT,zJ,show decide ((2:Int)=1)=false by decide,zU,zG,g2,zE]
  ·by_cases h3:m.1=3
   ·obtain ⟨e,J',g1,g2,g3,g4,g9⟩:=answer_both R K m hJ h3
    refine ⟨e,um,J',last,L,?_,g2,R,g3,by omega,g4,g9⟩
    obtain ⟨sg,n,cn,tn,tb,tt,D,N,us,by',er,⟨⟩⟩:=m
    simp only at h3
    subst h3
    simp only [F7,zu,zJ,show decide ((3:Int)=1)=false by decide,show decide ((3:Int)=2)=false by decide,zU,zG,g1,zE]
   ·by_cases h4:m.1=4
    ·obtain ⟨e,g1,g2⟩:=saw_both (J:=J) (last:=last) R m (by omega) h4
     refine ⟨e,um,J,last,L,?_,g2,R,K,by omega,by omega,(by by_cases he:e=0;exact .inr ⟨he,.inr (.inr (.inr ⟨h4,rfl,rfl,rfl⟩))⟩;exact .inl ⟨he,rfl,rfl,rfl⟩)⟩
     obtain ⟨sg,n,cn,tn,tb,tt,D,N,us,by',er,⟨⟩⟩:=m
     simp only at h4
     subst h4
     simp only [F7,zu,zJ,show decide ((4:Int)=1)=false by decide,show decide ((4:Int)=2)=false by decide,show decide ((4:Int)=3)=false by decide,zU,zG,g1,zE]
    ·refine ⟨14,um,J,last,L,?_,?_,R,K,by omega,by omega,.inl ⟨by decide,rfl,rfl,rfl⟩⟩
     ·obtain ⟨sg,n,cn,tn,tb,tt,D,N,us,by',er,⟨⟩⟩:=m
      simp only at h1 h2 h3 h4
      simp only [F7,zu,zJ,zz h1,zz h2,zz h3,zz h4]
     ·obtain ⟨sg,n,cn,tn,tb,tt,D,N,us,by',er,⟨⟩⟩:=m
      simp only at h1 h2 h3 h4
      simp only [uT,zJ,zz h1,zz h2,zz h3,zz h4]
theorem foldS_anyQ {α τ:Type} (b:α->Bool) (r z:τ):∀ l:List α,zd (λa (_:Unit)=>(cond (b a) (.inr r) (.inl ()):Unit⊕τ)) (λ_=>z) () l=cond (l.any b) r z
 | []=>rfl
 | a::t=>by
  simp only [zd,List.any_cons]
  cases b a with
  | true=>rfl
  | false=>exact foldS_anyQ b r z t
theorem F5_eq (l:List Int) (n:Int) (hl:l.length<=100000):F5 ((l,n,()),())=some (l.any λa=>decide (a=n),()):=by
 have hF:=zK
 have e:L5_0 ((l,n,(0:Int),()),())=some (cond (l.any λa=>decide (a=n)) (.inr (((),()),())) (.inl ((),()))):=by
  unfold L5_0
  rw [<- foldS_anyQ]
  refine yL (f:=B5_0) (λ(_:Unit) i=>((l,n,(i:Int),()),())) l _ _ (λb i a hi ha=>?_) (λb=>?_) (by omega)
  ·have d0:decide ((i:Int)<((l.length:Nat):Int))=true:=zW (by omega)
   have d1:decide ((0:Int)<=(i:Int))=true:=zW (by omega)
   have w1:zX ((i:Int)+1)=((i+1:Nat):Int):=by rw [zO (by omega) (by omega)];rfl
   simp only [B5_0,d0,d1,z8,zG,zr,ha,w1]
   cases decide (a=n) <;> rfl
  ·simp only [B5_0,Int.lt_irrefl,yp,zJ]
 simp only [F5,e,zE]
 cases (l.any λa=>decide (a=n)) <;> rfl
theorem F21_self (b:Bx) (hl:b.2.2.2.1.length<=100000):F21 ((b,b,()),())=some (true,()):=by
 obtain ⟨nm,v,n,ls,u⟩:=b
 cases u
 have hF:=zK
 simp only at hl
 have h:L21_0 (((),(),(0:Int),()),((nm,v,n,ls,()),(nm,v,n,ls,()),()))=some (.inl ((),())):=by
  unfold L21_0
  refine (yL (f:=B21_0) (λ(_:Unit) i=>(((),(),(i:Int),()),((nm,v,n,ls,()),(nm,v,n,ls,()),()))) ls (λ_ _=>.inl ()) (λ_=>.inl ((),())) (b:=()) (λb i a hi ha=>?_) (λb=>?_) (by omega)).trans ?_
  ·have d0:decide ((i:Int)<((ls.length:Nat):Int))=true:=zW (by omega)
   have d1:decide ((0:Int)<=(i:Int))=true:=zW (by omega)
   have w1:zX ((i:Int)+1)=((i+1:Nat):Int):=by rw [zO (by omega) (by omega)];rfl
   simp only [B21_0,d0,d1,z8,zG,zr,ha,w1,zU,zu,Bool.or_false,zJ,Bool.or_self]
  ·simp only [B21_0,Int.lt_irrefl,yp,zJ]
  ·rw [wE]
 simp only [F21,h,zU,zu,zJ,zE,Bool.or_self]
theorem F10_self (a:Tx) (v:Int) (bx:List Bx) (hl:bx.length<=100) (hb:∀ b∈bx,b.2.2.2.1.length<=100000):F10 (((a,v,bx,()),(a,v,bx,()),()),())=some (true,()):=by
 have hF:=zK
 have h:L10_0 (((),(),(0:Int),()),((a,v,bx,()),(a,v,bx,()),()))=some (.inl ((),())):=by
  unfold L10_0
  refine (yL (f:=B10_0) (λ(_:Unit) i=>(((),(),(i:Int),()),((a,v,bx,()),(a,v,bx,()),()))) bx (λ_ _=>.inl ()) (λ_=>.inl ((),())) (b:=()) (λb i x hi hx=>?_) (λb=>?_) (by omega)).trans ?_
  ·have d0:decide ((i:Int)<((bx.length:Nat):Int))=true:=zW (by omega)
   have d1:decide ((0:Int)<=(i:Int))=true:=zW (by omega)
   have w1:zX ((i:Int)+1)=((i+1:Nat):Int):=by rw [zO (by omega) (by omega)];rfl
   have hm:x∈bx:=by
    have:=hx ([],(0,(0,([],()))))
    rw [xk,List.getElem?_eq_getElem hi,Option.getD_some] at this
    rw [<- this];exact List.getElem_mem hi
   have e:=F21_self x (hb x hm)
   obtain ⟨x1,x2,x3,x4,⟨⟩⟩:=x
   simp only [B10_0,d0,d1,z8,zG,zr,hx,w1,e,zE,zu,zJ]
  ·simp only [B10_0,Int.lt_irrefl,yp,zJ]
  ·rw [wE]
 simp only [F10,h,zU,zu,zJ,zE,Bool.or_self]
theorem F9_eq {um:Um} {L:List RS} (R:RelF um L) (nm:Tx):∃ (a:Tx) (v ep e:Int) (bx:List Bx),bx.length<=6/\(∀ b∈bx,b.2.2.2.1.length<=32) /\
  ∀ (J:yy) (last:Int),F9 ((true,nm,()),(((),(),last,()),um,J,()))=some (((a,v,(),()),ep,e,()),(((),(),last,()),um,J,bx,())):=by
 have hS:=R.same nm
 cases hg:look L nm with
 | none =>
  rw [hg] at hS
  have hm:=seat_no hS
  refine ⟨[],0,0,9,[],by simp,λ_ h=>absurd h (List.not_mem_nil),λJ last=>?_⟩
  simp only [F9,zG,zJ,zu,hm,Option.isSome_none,Option.getD_none,zE,yq]
 | some s =>
  rw [hg] at hS
  obtain ⟨m,hm,Rm⟩:=seat_is hS
  have hn:s.1.1=nm:=by
   have:=List.find?_some hg
   simpa using this
  obtain ⟨⟨un,uv,ls,⟨⟩⟩,ep,⟨⟩⟩:=s
  simp only at hn hm Rm
  have hgu:zF .str m nm=some (un,(uv,(ls,()))):=by
   rw [Rm.same nm]
   simp [hn]
  have G:Fine (usr (un,(uv,(ls,())))):=(Rm.fine.fine nm _ hgu).1
  have e1:=F20_eq hgu G.good
  refine ⟨un,uv,ep,0,ls,G.good.few,λb hb=>G.good.len b hb,λJ last=>?_⟩
  simp only [F9,zG,zJ,zu,hm,Option.isSome_some,Option.getD_some,zE,e1]
abbrev mk1:List Dd:=[(1,[117],[],[],0,0,0,0,0,[],())]
abbrev usl:(List UInt8×Int×List (List UInt8×Int×Int×List (Int×UInt8×List UInt8×Unit)×Unit)×Unit)×Int×Unit:=(([117],1,[([73,78,66,79,88],1,1,[],())],()),1,())
theorem live3:F307 (([(3,1,0,(0,0,0,()),[],[],[],[],0,())],()),())=some ((0,9,()),()):=by kernel_rfl
theorem live5:uT (((),(2,1,0,0,0,0,mk1,[1],[],[],0,()),()),(([],[(1,(mk1,false,false,()))],()),()))=some (0,(([usl],[(1,(mk1,true,false,()))],()),())):=by kernel_rfl
theorem live7:uT (((),(3,1,0,0,0,0,[],[],[],[],0,()),()),(([usl],[(1,(mk1,true,false,()))],()),()))=some (0,(([usl],[(1,(mk1,true,true,()))],()),())):=by kernel_rfl
theorem live4:uT (((),(1,1,0,0,0,0,mk1,[],[],[],0,()),()),(([],[],()),()))=some (0,(([],[(1,(mk1,false,false,()))],()),())):=by
 simp only [uT,zR]
 kernel_rfl
abbrev lms:List (Int×Int×Int×(Int×Int×Int×Unit)×List Dd×List Int×Tx×List UInt8×Int×Unit):=[(1,1,0,(0,0,0,()),mk1,[],[],[],0,()),(2,1,0,(0,0,0,()),mk1,[1],[],[],0,()),(3,1,0,(0,0,0,()),[],[],[],[],0,())]
theorem liveF7:F307 ((lms,()),())=some ((3,0,()),()):=by
 have w1:zX (0+1)=1:=by rfl
 have w2:zX (1+1)=2:=by rfl
 have w3:zX (2+1)=3:=by rfl
 have h4:=live4
 have h5:=live5
 have h7:=live7
 have s0:wc ((lms,(),(0:Int),()),((([]:List RS),([]:yy),()),()))=some (.inl ((lms,(),(1:Int),()),((([]:List RS),[(1,(mk1,false,false,()))],()),()))):=by
  simp only [wc,List.length_cons,List.length_nil,show decide ((0:Int)<=0)=true from rfl,show decide ((0:Int)<((0+1+1+1:Nat):Int))=true from rfl,Bool.and_true,zG,zE,Int.toNat_zero,List.getD_cons_zero,h4,zU,zu,zJ,w1]
 have s1:wc ((lms,(),(1:Int),()),((([]:List RS),[(1,(mk1,false,false,()))],()),()))=some (.inl ((lms,(),(2:Int),()),(([usl],[(1,(mk1,true,false,()))],()),()))):=by
  simp only [wc,List.length_cons,List.length_nil,show decide ((0:Int)<=1)=true from rfl,show decide ((1:Int)<((0+1+1+1:Nat):Int))=true from rfl,Bool.and_true,zG,zE,show (1:Int).toNat=1 from rfl,List.getD_cons_succ,List.getD_cons_zero,h5,zU,zu,zJ,w2]
 have s2:wc ((lms,(),(2:Int),()),(([usl],[(1,(mk1,true,false,()))],()),()))=some (.inl ((lms,(),(3:Int),()),(([usl],[(1,(mk1,true,true,()))],()),()))):=by
  simp only [wc,List.length_cons,List.length_nil,show decide ((0:Int)<=2)=true from rfl,show decide ((2:Int)<((0+1+1+1:Nat):Int))=true from rfl,Bool.and_true,zG,zE,show (2:Int).toNat=2 from rfl,List.getD_cons_succ,List.getD_cons_zero,h7,zU,zu,zJ,w3]
 have s3:wc ((lms,(),(3:Int),()),(([usl],[(1,(mk1,true,true,()))],()),()))=some (.inr (.inl ((lms,()),()))):=by
  simp only [wc,List.length_cons,List.length_nil,show decide ((3:Int)<((0+1+1+1:Nat):Int))=false from rfl,zJ]
 have h:L307_0 ((lms,(),(0:Int),()),((([]:List RS),([]:yy),()),()))=some (.inl ((lms,()),())):=by
  show iter wc yn _=_
  rw [show yn=9223372036854775804+1+1+1+1 from rfl]
  simp only [iter,s0,s1,s2,s3]
 simp only [F307,F320,zE,h]
 rfl
abbrev Mn:Type:=Int×Int×Int×(Int×Int×Int×Unit)×List Dd×List Int×Tx×List UInt8×Int×Unit
abbrev nom:Mn:=((0:Int),((0:Int),((0:Int),(((0:Int),((0:Int),((0:Int),()))),(([]:List Dd),(([]:List Int),(([]:List UInt8),(([]:List UInt8),((0:Int),())))))))))
abbrev flatM (x:Mn):Mk:=(x.1,x.2.1,x.2.2.1,x.2.2.2.1.1,x.2.2.2.1.2.1,x.2.2.2.1.2.2.1,x.2.2.2.2.1,x.2.2.2.2.2.1,x.2.2.2.2.2.2.1,x.2.2.2.2.2.2.2.1,x.2.2.2.2.2.2.2.2.1,())
theorem judge_both (l:List Mn) (hs:∀ x∈l,SmM (flatM x)) (hl:l.length<=1100000):∃ i e,F22 ((l,()),())=some ((i,e,()),())/\F307 ((l,()),())=some ((i,e,()),()):=by
 have hF:=zK
 obtain ⟨r,s,g1,g2,g3⟩:=loops (f:=B22_0) (g:=wc) (p:=((l,(),l,((l.length:Nat):Int),(0:Int),()),(((),(),(0:Int),()),([]:Um),([]:yy),()))) (q:=((l,(),(0:Int),()),((([]:List RS),([]:yy),()),())))
  (λp q=>∃ (i:Nat) (um:Um) (J:yy) (last:Int) (L:List RS),i<=l.length/\RelF um L/\JOK J last/\L.length<=12*i/\J.length<=i /\
   p=((l,(),l,((l.length:Nat):Int),(i:Int),()),(((),(),last,()),um,J,()))/\q=((l,(),(i:Int),()),((L,J,()),())))
  (λp=>l.length-p.1.2.2.2.2.1.toNat)
  (λr s=>(r=.inl ((l,()),())/\s=.inl ((l,()),()))\/∃ i e,r=.inr ((i,e,()),())/\s=.inr ((i,e,()),()))
  (λp q ⟨i,um,J,last,L,hi,R,K,hL,hJ,hp,hq⟩=>by
   subst hp hq
   rcases Nat.lt_or_ge i l.length with h | h
   ·have d0:decide ((i:Int)<((l.length:Nat):Int))=true:=zW (by omega)
    have d1:decide ((0:Int)<=(i:Int))=true:=zW (by omega)
    have w1:zX ((i:Int)+1)=((i+1:Nat):Int):=by rw [zO (by omega) (by omega)];rfl
    have hg:l.getD i nom=l[i]:=by rw [xk,List.getElem?_eq_getElem h];rfl
    obtain ⟨e,um',J',last',L',T⟩:=mark_both R K (flatM l[i]) (hs _ (List.getElem_mem h)) (by omega) (by omega)
    obtain ⟨t1,t2,t3,t4,t5,t6⟩:=T
    by_cases he:e=0
    ·left
     refine ⟨((l,(),l,((l.length:Nat):Int),((i+1:Nat):Int),()),(((),(),last',()),um',J',())),((l,(),((i+1:Nat):Int),()),((L',J',()),())),?_,?_,⟨i+1,um',J',last',L',h,t3,t4,by omega,by omega,rfl,rfl⟩,by simp only;omega⟩
     ·generalize hx:l[i]=x at t1 hg
      simp only [B22_0,d0,d1,z8,zG,zJ,zr,hg,zE,t1,he,zU,zu,w1]
     ·generalize hx:l[i]=x at t2 hg
      simp only [wc,d0,d1,z8,zG,zJ,zr,hg,zE,t2,he,zU,zu,w1]
    ·right
     refine ⟨_,_,?_,?_,.inr ⟨(i:Int),e,rfl,rfl⟩⟩
     ·generalize hx:l[i]=x at t1 hg
      simp only [B22_0,d0,d1,z8,zG,zr,hg,zE,t1,zz he,yq]
     ·generalize hx:l[i]=x at t2 hg
      simp only [wc,d0,d1,z8,zG,zr,hg,zE,t2,zz he,yq]
   ·have d0:decide ((i:Int)<((l.length:Nat):Int))=false:=zz (by omega)
    right
    refine ⟨_,_,?_,?_,.inl ⟨rfl,rfl⟩⟩
    ·simp only [B22_0,d0,zJ]
    ·simp only [wc,d0,zJ])
  ⟨0,[],[],0,[],Nat.zero_le _,RelF.nil,JOK.nil,Nat.le_refl _,Nat.le_refl _,rfl,rfl⟩ (by simp only;omega)
 have g1':L22_0 ((l,(),l,((l.length:Nat):Int),(0:Int),()),(((),(),(0:Int),()),([]:Um),([]:yy),()))=some r:=g1
 have g2':L307_0 ((l,(),(0:Int),()),((([]:List RS),([]:yy),()),()))=some s:=g2
 rcases g3 with ⟨rfl,rfl⟩ | ⟨i,e,rfl,rfl⟩
 ·refine ⟨((l.length:Nat):Int),0,?_,?_⟩
  ·simp only [F22,F4,zE,g1']
  ·simp only [F307,F320,zE,g2']
 ·refine ⟨i,e,?_,?_⟩
  ·simp only [F22,F4,zE,g1']
  ·simp only [F307,F320,zE,g2']
theorem live_true:F11 ((),())=some (true,()):=by
 have sm:∀ x:Mn,x.2.2.2.2.1=[]\/x.2.2.2.2.1=mk1->x.2.2.2.2.2.1.length<=1->SmM (flatM x):=λx h1 h2=>by
  refine ⟨?_,λd hd=>?_,λd hd=>?_,?_⟩
  ·show x.2.2.2.2.1.length<=_
   rcases h1 with h1 | h1 <;> rw [h1] <;> simp
  ·have hd:d∈x.2.2.2.2.1:=hd
   rcases h1 with h1 | h1 <;> rw [h1] at hd
   ·cases hd
   ·rw [List.mem_singleton.1 hd];exact ⟨by simp,by simp,by simp⟩
  ·have hd:d∈x.2.2.2.2.1:=hd
   rcases h1 with h1 | h1 <;> rw [h1] at hd
   ·cases hd
   ·rw [List.mem_singleton.1 hd];exact Nat.zero_le _
  ·show x.2.2.2.2.2.1.length<=_
   omega
 obtain ⟨i1,e1,h1,g1⟩:=judge_both lms (λx hx=>by
  simp only [List.mem_cons,List.not_mem_nil,or_false] at hx
  rcases hx with rfl | rfl | rfl
  ·exact sm _ (.inr rfl) (by simp)
  ·exact sm _ (.inr rfl) (by simp)
  ·exact sm _ (.inl rfl) (by simp)) (by simp)
 obtain ⟨i2,e2,h2,g2⟩:=judge_both [(3,1,0,(0,0,0,()),[],[],[],[],0,())] (λx hx=>by
  rw [List.mem_singleton.1 hx]
  exact sm _ (.inl rfl) (by simp)) (by simp)
 rw [liveF7] at g1
 rw [live3] at g2
 simp only [xQ,Prod.mk.injEq,and_true] at g1 g2
 obtain ⟨rfl,rfl⟩:=g1
 obtain ⟨rfl,rfl⟩:=g2
 simp only [F11,h1,h2,zE]
 rfl
abbrev DdT:Ty:=.pair (.int .i64) (.pair .str (.pair .str (.pair .str (.pair (.int .i64) (.pair (.int .i64) (.pair .u8 (.pair (.int .i64) (.pair (.int .i64) (.pair (.sl .u8) .unit)))))))))
abbrev MnT:Ty:=.pair (.int .i64) (.pair (.int .i64) (.pair (.int .i64) (.pair (.pair (.int .i64) (.pair (.int .i64) (.pair (.int .i64) .unit))) (.pair (.sl DdT) (.pair (.sl (.int .i64)) (.pair .str (.pair (.sl .u8) (.pair (.int .i64) .unit))))))))
theorem sum_mem {α:Type} (f:α->Nat):∀ (l:List α) (x:α),x∈l->f x<=(l.map f).sum
 | [],_,h=>by cases h
 | a::t,x,h=>by
  rw [List.map_cons,List.sum_cons]
  rcases List.mem_cons.1 h with rfl | h
  ·omega
  ·have:=sum_mem f t x h;omega
theorem len_sum {α:Type} (f:α->Nat):∀ (l:List α),(∀ x,1<=f x)->l.length<=(l.map f).sum
 | [],_=>Nat.zero_le _
 | a::t,h=>by
  rw [List.map_cons,List.sum_cons,List.length_cons]
  have:=len_sum f t h
  have:=h a
  omega
theorem dd_size (d:Dd):1+((d.2.1.length+1)+((d.2.2.1.length+1)+((d.2.2.2.1.length+1)+(1+(1+(1+(1+(1+(d.2.2.2.2.2.2.2.2.2.1.length+0)))))))))=xH DdT d:=by
 obtain ⟨dd,du,db,dt,uid,how,fl,ds,de,by',⟨⟩⟩:=d
 show _=1+((du.length+1)+((db.length+1)+((dt.length+1)+(1+(1+(1+(1+(1+(xH (.sl .u8) by'+0)))))))))
 rw [sizD_u8]
theorem mn_size (x:Mn):xH (.sl DdT) x.2.2.2.2.1+xH (.sl (.int .i64)) x.2.2.2.2.2.1+1<=xH MnT x:=by
 obtain ⟨sg,n,cn,⟨tn,tb,tt,⟨⟩⟩,D,N,us,by',er,⟨⟩⟩:=x
 show _<=1+(1+(1+((1+(1+(1+0)))+(xH (.sl DdT) D+(xH (.sl (.int .i64)) N+(us.length+1+(xH (.sl .u8) by'+(1+0))))))))
 show xH (.sl DdT) D+xH (.sl (.int .i64)) N+1<=_
 omega
theorem sm_marks (l:List Mn) (hz:xH (.sl MnT) l<=1048576):(∀ x∈l,SmM (flatM x))/\l.length<=1100000:=by
 have h0:xH (.sl MnT) l=(List.map (xH MnT) l).sum:=rfl
 constructor
 ·intro x hx
  have h1:=sum_mem (xH MnT) l x hx
  have h2:=mn_size x
  have h3:xH (.sl DdT) x.2.2.2.2.1=(List.map (xH DdT) x.2.2.2.2.1).sum:=rfl
  have h4:xH (.sl (.int .i64)) x.2.2.2.2.2.1=(List.map (xH (.int .i64)) x.2.2.2.2.2.1).sum:=rfl
  refine ⟨?_,λd hd=>?_,λd hd=>?_,?_⟩
  ·have:=len_sum (xH DdT) x.2.2.2.2.1 λd=>by have:=dd_size d;omega
   show x.2.2.2.2.1.length<=_
   omega
  ·have h5:=sum_mem (xH DdT) x.2.2.2.2.1 d hd
   have h6:=dd_size d
   exact ⟨by omega,by omega,by omega⟩
  ·have h5:=sum_mem (xH DdT) x.2.2.2.2.1 d hd
   have h6:=dd_size d
   show d.2.2.2.2.2.2.2.2.2.1.length<=_
   omega
  ·have:=len_sum (xH (.int .i64)) x.2.2.2.2.2.1 λd=>Nat.le_refl 1
   show x.2.2.2.2.2.1.length<=_
   omega
 ·have:=len_sum (xH MnT) l λx=>by have:=mn_size x;omega
  omega
theorem nd_len {α:Type} [DecidableEq α]:∀ {A B:List α},A.Nodup->(∀ x∈A,x∈B)->A.length<=B.length
 | [],_,_,_=>Nat.zero_le _
 | a::t,B,hn,hs=>by
  rw [List.nodup_cons] at hn
  have ha:=hs a List.mem_cons_self
  have h:=nd_len (A:=t) (B:=B.erase a) hn.2 λx hx=>(List.mem_erase_of_ne (by intro e;subst e;exact hn.1 hx)).2 (hs x (List.mem_cons_of_mem _ hx))
  rw [List.length_erase_of_mem ha] at h
  have:0<B.length:=List.length_pos_of_mem ha
  simp only [List.length_cons]
  omega
theorem um_seat {um:Um} {L:List RS} (R:RelF um L) {k:Tx} {x:Seat} (h:(k,x)∈um):∃ s,look L k=some s/\s.1.1=k/\k.length<=24:=by
 have hg:=v6 KE_str R.nd h
 have hS:=R.same k
 cases hl:look L k with
 | none=>rw [hl] at hS;rw [seat_no hS] at hg;cases hg
 | some s =>
  rw [hl] at hS
  obtain ⟨m,hm,Rm⟩:=seat_is hS
  have hn:s.1.1=k:=by
   have:=List.find?_some hl
   simpa using this
  refine ⟨s,rfl,hn,?_⟩
  obtain ⟨⟨un,uv,ls,⟨⟩⟩,ep,⟨⟩⟩:=s
  simp only at hn Rm
  have hgu:zF .str m k=some (un,(uv,(ls,()))):=by
   rw [Rm.same k]
   simp [hn]
  have G:Fine (usr (un,(uv,(ls,())))):=(Rm.fine.fine k _ hgu).1
  have:=user_le G.user
  rw [<- hn]
  exact this
theorem um_ok {um:Um} {L:List RS} (R:RelF um L) (hL:L.length<=1000000):keysOK um=true/\um.length<=L.length:=by
 have hlen:um.length<=L.length:=by
  have:=nd_len (A:=um.map (·.1)) (B:=L.map (·.1.1)) R.nd λk hk=>by
   obtain ⟨⟨k',x⟩,hx,rfl⟩:=List.mem_map.1 hk
   obtain ⟨s,h1,h2,_⟩:=um_seat R hx
   exact List.mem_map.2 ⟨s,List.mem_of_find?_eq_some h1,h2⟩
  simpa using this
 refine ⟨?_,hlen⟩
 unfold keysOK
 rw [yk]
 refine ⟨zW (by omega),List.all_eq_true.2 λp hp=>zW ?_⟩
 obtain ⟨_,_,_,h⟩:=um_seat R (k:=p.1) (x:=p.2) hp
 have hm:maxLen=9223372036854775807:=rfl
 omega
theorem F8_eq {um:Um} {L:List RS} (R:RelF um L) (hL:L.length<=1000000) (J:yy) (last:Int):F8 ((true,()),(((),(),last,()),um,J,()))=some ((),(((),(),last,()),um,J,xp um,())):=by
 simp only [F8,zu,zJ,zG,(um_ok R hL).1]
theorem keys_len (um:Um):(xp um).length=um.length:=by
 unfold xp
 rw [List.length_mergeSort,List.length_map]
theorem L3_1_eq {um:Um} {L:List RS} (R:RelF um L) (hL:L.length<=1000000) (l:List Mn) (ix:Int) (J:yy) (last last2:Int) (J2:yy) (dn an:List Int) :
  L3_1 ((l,(),(),(),(),ix,true,(),(0:Int),()),(((),(),last,()),dn,an,((),(),last2,()),xp um,um,J,um,J2,()))=some (.inl ((l,(),(),(),(),ix,()),(((),(),last,()),dn,an,um,J,()))):=by
 have hF:=zK
 have hk:(xp um).length<=1000000:=by rw [keys_len];have:=(um_ok R hL).2;omega
 unfold L3_1
 refine (yL (f:=B3_1) (λ(_:Unit) i=>((l,(),(),(),(),ix,true,(),(i:Int),()),(((),(),last,()),dn,an,((),(),last2,()),xp um,um,J,um,J2,()))) (xp um) (λ_ _=>.inl ()) (λ_=>.inl ((l,(),(),(),(),ix,()),(((),(),last,()),dn,an,um,J,()))) (b:=()) (λb i x hi hx=>?_) (λb=>?_) (by omega)).trans ?_
 ·have d0:decide ((i:Int)<(((xp um).length:Nat):Int))=true:=zW (by omega)
  have d1:decide ((0:Int)<=(i:Int))=true:=zW (by omega)
  have w1:zX ((i:Int)+1)=((i+1:Nat):Int):=by rw [zO (by omega) (by omega)];rfl
  obtain ⟨a,v,ep,e,bx,h1,h2,h3⟩:=F9_eq R x
  have e9:=F10_self a v bx (by omega) λb hb=>by have:=h2 b hb;omega
  simp only [B3_1,d0,d1,z8,zG,zr,hx,w1,h3,e9,zE,zU,zu,yq,zJ]
 ·simp only [B3_1,Int.lt_irrefl,yp,zJ]
 ·rw [wE]
structure InvF (dn an:List Int) (J:yy):Prop where
 d:∀ n,(dn.any λa=>decide (a=n))=true<->∃ D x,((n,(D,(true,(x,())))):Int×Jb)∈J
 a:∀ n,(an.any λa=>decide (a=n))=true<->∃ D x,((n,(D,(x,(true,())))):Int×Jb)∈J
theorem InvF.nil:InvF [] [] []:=⟨λn=>by simp,λn=>by simp⟩
theorem uniq {J:yy} (h:J.Pairwise (λa b=>a.1<b.1)) {n:Int} {x y:Jb} (hx:(n,x)∈J) (hy:(n,y)∈J):x=y:=by
 induction J with
 | nil=>cases hx
 | cons a t ih =>
  rw [List.pairwise_cons] at h
  rcases List.mem_cons.1 hx with e1 | h1
  ·subst e1
   rcases List.mem_cons.1 hy with e | h2
   ·exact (Prod.mk.inj e).2.symm
   ·exact absurd (h.1 _ h2) (Int.lt_irrefl _)
  ·rcases List.mem_cons.1 hy with e2 | h2
   ·subst e2
    exact absurd (h.1 _ h1) (Int.lt_irrefl _)
   ·exact ih h.2 h1 h2
theorem F6_eq (um:Um) (J:yy) (last:Int):F6 ((true,()),(((),(),last,()),um,J,()))=some (true,(((),(),last,()),um,J,((),(),last,()),um,J,())):=by
 simp only [F6,zu,zJ,zG,zU]
theorem any_app (l:List Int) (n k:Int):((l++[n]).any λa=>decide (a=k))=true<->(l.any λa=>decide (a=k))=true\/n=k:=by
 simp
theorem step {l:List Mn} {i:Nat} (hi:i<l.length) (h1:i<100) {um:Um} {J:yy} {last:Int} {L:List RS} {dn an:List Int} (R:RelF um L) (K:JOK J last) (I:InvF dn an J) (S:SmM (flatM l[i])) (hJ:J.length<=1000) (hL:L.length<=10000) (hd:dn.length<=1000) (ha:an.length<=1000) :
  ∃ um' J' last' L' dn' an',B3_0 ((l,(),(),(),(),(i:Int),()),(((),(),last,()),dn,an,um,J,()))=some (.inl ((l,(),(),(),(),((i+1:Nat):Int),()),(((),(),last',()),dn',an',um',J',()))) /\
   RelF um' L'/\JOK J' last'/\InvF dn' an' J'/\L'.length<=L.length+12/\J'.length<=J.length+1/\dn'.length<=dn.length+1/\an'.length<=an.length+1:=by
 have d0:decide ((i:Int)<((l.length:Nat):Int))=true:=zW (by omega)
 have d1:decide ((0:Int)<=(i:Int))=true:=zW (by omega)
 have d2:decide ((i:Int)<100)=true:=zW (by omega)
 have w1:zX ((i:Int)+1)=((i+1:Nat):Int):=by rw [zO (by omega) (by omega)];rfl
 have hg:l.getD i nom=l[i]:=by rw [xk,List.getElem?_eq_getElem hi];rfl
 obtain ⟨e,um',J',last',L',T⟩:=mark_both R K (flatM l[i]) S (by omega) (by omega)
 obtain ⟨t1,_,t3,t4,t5,t6,t7⟩:=T
 generalize l[i]=x at *
 obtain ⟨sg,n,cn,⟨tn,tb,tt,⟨⟩⟩,D,N,us,by',er,⟨⟩⟩:=x
 have f6:=F6_eq um J last
 have hb:∀ l:List Int,l.length<=1000->zC (l.length+[n].length) 8=true:=λl hl=>zT (by simp only [va];omega)
 rcases t7 with ⟨he,rfl,rfl,rfl⟩ | ⟨rfl,t7⟩
 ·refine ⟨um',J',last',L',dn,an,?_,t3,t4,I,t5,t6,by omega,by omega⟩
  have f8:=F8_eq t3 (by omega) J' last'
  have fl:=L3_1_eq t3 (by omega) l (i:Int) J' last' last' J' dn an
  simp only [B3_0,d0,d1,d2,z8,zG,zJ,zr,hg,zE,f6,t1,zz he,yq,zu,f8,zU,fl,w1]
 ·have h5:=F5_eq dn n (by omega)
  have h5':=F5_eq an n (by omega)
  rcases t7 with ⟨hs,h2,rfl,rfl,D',rfl⟩ | ⟨hs,rfl,A,B,D',hA,rfl⟩ | ⟨hs,rfl,rfl,A,B,D',q,hA,rfl,hq⟩ | ⟨hs,rfl,rfl,rfl⟩
  ·simp only at hs h2 t1
   subst hs
   refine ⟨_,_,_,L',dn,an,?_,t3,t4,⟨λk=>?_,λk=>?_⟩,t5,t6,by omega,by omega⟩
   ·simp only [B3_0,d0,d1,d2,z8,zG,zJ,zr,hg,zE,f6,t1,zU,zu,show decide ((1:Int)=2)=false by decide,show decide ((1:Int)=3)=false by decide,w1]
   ·rw [I.d k]
    constructor
    ·rintro ⟨D2,x2,h⟩;exact ⟨D2,x2,List.mem_append_left _ h⟩
    ·rintro ⟨D2,x2,h⟩
     rcases List.mem_append.1 h with h | h
     ·exact ⟨D2,x2,h⟩
     ·simp at h
   ·rw [I.a k]
    constructor
    ·rintro ⟨D2,x2,h⟩;exact ⟨D2,x2,List.mem_append_left _ h⟩
    ·rintro ⟨D2,x2,h⟩
     rcases List.mem_append.1 h with h | h
     ·exact ⟨D2,x2,h⟩
     ·simp at h
  ·simp only at hs hA t1
   subst hs
   have hin:((n,(D',(false,(false,())))):Int×Jb)∈J:=by rw [hA];simp
   have nd:(dn.any λa=>decide (a=n))=false:=by
    cases h:dn.any λa=>decide (a=n) with
    | false=>rfl
    | true =>
     obtain ⟨D2,x2,h⟩:=(I.d n).1 h
     have:=uniq K.rise h hin
     cases this
   have na:(an.any λa=>decide (a=n))=false:=by
    cases h:an.any λa=>decide (a=n) with
    | false=>rfl
    | true =>
     obtain ⟨D2,x2,h⟩:=(I.a n).1 h
     have:=uniq K.rise h hin
     cases this
   rw [nd] at h5
   rw [na] at h5'
   have mem:∀ (k:Int) (y:Jb),(k,y)∈A++(n,(D',(true,(false,()))))::B<->((k,y)∈J/\k≠n)\/(k=n/\y=(D',(true,(false,())))):=λk y=>by
    have hr:=K.rise
    rw [hA] at hr
    rw [hA]
    rw [List.pairwise_append,List.pairwise_cons] at hr
    obtain ⟨_,⟨hr2,_⟩,hr3⟩:=hr
    simp only [List.mem_append,List.mem_cons,Prod.mk.injEq]
    constructor
    ·rintro (h | h | h)
     ·have:=hr3 _ h _ List.mem_cons_self
      exact .inl ⟨.inl h,by simp only at this;omega⟩
     ·exact .inr h
     ·have:=hr2 _ h
      exact .inl ⟨.inr (.inr h),by simp only at this;omega⟩
    ·rintro (⟨h | h | h,hk⟩ | h)
     ·exact .inl h
     ·exact absurd h.1 hk
     ·exact .inr (.inr h)
     ·exact .inr (.inl h)
   refine ⟨_,_,_,L',dn++[n],an,?_,t3,t4,⟨λk=>?_,λk=>?_⟩,t5,t6,by simp,by omega⟩
   ·simp only [B3_0,d0,d1,d2,z8,zG,zJ,zr,hg,zE,f6,t1,zU,zu,yq,h5,h5',hb dn hd,show decide ((2:Int)=3)=false by decide,w1]
   ·rw [any_app,I.d k]
    constructor
    ·rintro (⟨D2,x2,h⟩ | rfl)
     ·by_cases hk:k=n
      ·subst hk;exact ⟨D',false,(mem _ _).2 (.inr ⟨rfl,rfl⟩)⟩
      ·exact ⟨D2,x2,(mem _ _).2 (.inl ⟨h,hk⟩)⟩
     ·exact ⟨D',false,(mem _ _).2 (.inr ⟨rfl,rfl⟩)⟩
    ·rintro ⟨D2,x2,h⟩
     rcases (mem _ _).1 h with ⟨h,hk⟩ | ⟨h,_⟩
     ·exact .inl ⟨D2,x2,h⟩
     ·exact .inr h.symm
   ·rw [I.a k]
    constructor
    ·rintro ⟨D2,x2,h⟩
     by_cases hk:k=n
     ·subst hk
      have:=uniq K.rise h hin
      cases this
     ·exact ⟨D2,x2,(mem _ _).2 (.inl ⟨h,hk⟩)⟩
    ·rintro ⟨D2,x2,h⟩
     rcases (mem _ _).1 h with ⟨h,hk⟩ | ⟨_,h⟩
     ·exact ⟨D2,x2,h⟩
     ·cases h
  ·simp only at hs hA hq t1
   subst hs
   have hin:((n,(D',(q,(false,())))):Int×Jb)∈J:=by rw [hA];simp
   have nd:(dn.any λa=>decide (a=n))=q:=by
    cases h:dn.any λa=>decide (a=n) with
    | false =>
     cases q with
     | false=>rfl
     | true=>rw [(I.d n).2 ⟨_,_,hin⟩] at h;cases h
    | true =>
     obtain ⟨D2,x2,h⟩:=(I.d n).1 h
     have:=uniq K.rise h hin
     cases this
     rfl
   have na:(an.any λa=>decide (a=n))=false:=by
    cases h:an.any λa=>decide (a=n) with
    | false=>rfl
    | true =>
     obtain ⟨D2,x2,h⟩:=(I.a n).1 h
     have:=uniq K.rise h hin
     cases this
   have hqe:(decide (er=0) == q)=true:=by
    cases q with
    | true=>rw [zW (hq.2 rfl)];rfl
    | false=>rw [zz λh=>by have:=hq.1 h;cases this];rfl
   rw [nd] at h5
   rw [na] at h5'
   have mem:∀ (k:Int) (y:Jb),(k,y)∈A++(n,(D',(q,(true,()))))::B<->((k,y)∈J/\k≠n)\/(k=n/\y=(D',(q,(true,())))):=λk y=>by
    have hr:=K.rise
    rw [hA] at hr
    rw [hA]
    rw [List.pairwise_append,List.pairwise_cons] at hr
    obtain ⟨_,⟨hr2,_⟩,hr3⟩:=hr
    simp only [List.mem_append,List.mem_cons,Prod.mk.injEq]
    constructor
    ·rintro (h | h | h)
     ·have:=hr3 _ h _ List.mem_cons_self
      exact .inl ⟨.inl h,by simp only at this;omega⟩
     ·exact .inr h
     ·have:=hr2 _ h
      exact .inl ⟨.inr (.inr h),by simp only at this;omega⟩
    ·rintro (⟨h | h | h,hk⟩ | h)
     ·exact .inl h
     ·exact absurd h.1 hk
     ·exact .inr (.inr h)
     ·exact .inr (.inl h)
   refine ⟨_,_,_,L',dn,an++[n],?_,t3,t4,⟨λk=>?_,λk=>?_⟩,t5,t6,by omega,by simp⟩
   ·simp only [B3_0,d0,d1,d2,z8,zG,zJ,zr,hg,zE,f6,t1,zU,zu,yq,h5,h5',hqe,hb an ha,show decide ((3:Int)=2)=false by decide,w1]
   ·rw [I.d k]
    constructor
    ·rintro ⟨D2,x2,h⟩
     by_cases hk:k=n
     ·subst hk
      have:=uniq K.rise h hin
      cases this
      exact ⟨D',true,(mem _ _).2 (.inr ⟨rfl,rfl⟩)⟩
     ·exact ⟨D2,x2,(mem _ _).2 (.inl ⟨h,hk⟩)⟩
    ·rintro ⟨D2,x2,h⟩
     rcases (mem _ _).1 h with ⟨h3,hk⟩ | ⟨hk,h3⟩
     ·exact ⟨D2,x2,h3⟩
     ·subst hk
      have e3:q=true:=by
       have:=congrArg (λz:Jb=>z.2.1) h3
       exact this.symm
      subst e3
      exact ⟨_,_,hin⟩
   ·rw [any_app,I.a k]
    constructor
    ·rintro (⟨D2,x2,h⟩ | rfl)
     ·by_cases hk:k=n
      ·subst hk;exact ⟨D',q,(mem _ _).2 (.inr ⟨rfl,rfl⟩)⟩
      ·exact ⟨D2,x2,(mem _ _).2 (.inl ⟨h,hk⟩)⟩
     ·exact ⟨D',q,(mem _ _).2 (.inr ⟨rfl,rfl⟩)⟩
    ·rintro ⟨D2,x2,h⟩
     rcases (mem _ _).1 h with ⟨h,hk⟩ | ⟨h,_⟩
     ·exact .inl ⟨D2,x2,h⟩
     ·exact .inr h.symm
  ·simp only at hs t1
   subst hs
   refine ⟨_,_,_,L',dn,an,?_,t3,t4,I,t5,t6,by omega,by omega⟩
   simp only [B3_0,d0,d1,d2,z8,zG,zJ,zr,hg,zE,f6,t1,zU,zu,show decide ((4:Int)=2)=false by decide,show decide ((4:Int)=3)=false by decide,w1]
theorem law3 (l:List Mn) (hs:∀ x∈l,SmM (flatM x)) (hl:l.length<=1100000):F3 ((l,()),())=some (true,()):=by
 have hF:=zK
 have key:∀ (k i:Nat) (um:Um) (J:yy) (last:Int) (L:List RS) (dn an:List Int),i+k=min l.length 100->RelF um L->JOK J last->InvF dn an J->L.length<=12*i->J.length<=i->dn.length<=i->an.length<=i ->
   ∀ f,k<f->iter B3_0 f ((l,(),(),(),(),(i:Int),()),(((),(),last,()),dn,an,um,J,()))=some (.inl ((),())):=by
  intro k
  induction k with
  | zero =>
   intro i um J last L dn an hi R K I hL hJ hd ha f hf
   obtain ⟨f,rfl⟩:=Nat.exists_eq_succ_of_ne_zero (show f≠0 by omega)
   have d0:(decide ((i:Int)<((l.length:Nat):Int))&&decide ((i:Int)<100))=false:=by
    rcases Nat.lt_or_ge i 100 with h | h
    ·rw [zz (show ¬ ((i:Int)<((l.length:Nat):Int)) by omega),Bool.false_and]
    ·rw [zz (show ¬ ((i:Int)<100) by omega),Bool.and_false]
   simp only [iter,B3_0,d0,zJ]
  | succ k ih =>
   intro i um J last L dn an hi R K I hL hJ hd ha f hf
   obtain ⟨f,rfl⟩:=Nat.exists_eq_succ_of_ne_zero (show f≠0 by omega)
   have hil:i<l.length:=by omega
   obtain ⟨um',J',last',L',dn',an',h1,h2,h3,h4,h5,h6,h7,h8⟩:=step hil (by omega) R K I (hs _ (List.getElem_mem hil)) (by omega) (by omega) (by omega) (by omega)
   simp only [iter,h1]
   exact ih (i+1) um' J' last' L' dn' an' (by omega) h2 h3 h4 (by omega) (by omega) (by omega) (by omega) f (by omega)
 have h0:L3_0 ((l,(),(),(),(),(0:Int),()),(((),(),(0:Int),()),([]:List Int),([]:List Int),([]:Um),([]:yy),()))=some (.inl ((),())) :=
  key (min l.length 100) 0 [] [] 0 [] [] [] (by omega) RelF.nil JOK.nil InvF.nil (Nat.zero_le _) (Nat.zero_le _) (Nat.zero_le _) (Nat.zero_le _) yn (by omega)
 simp only [F3,F4,zE,h0,live_true]
theorem law3' (l:List Mn) (hz:xH (.sl MnT) l<=1048576):F3 ((l,()),())=some (true,()):=law3 l (sm_marks l hz).1 (sm_marks l hz).2
end Go.Fo
namespace Go.Fo
open Go Go.Ev Go.Proofs
set_option maxRecDepth 100000
theorem maxl (w:World) (h:w.ShapedOpen Tryz.prog):∃ m,w.cell? ⟨0,0,none⟩=some (.int .i64 m) :=
 Go.Proofs.cell_of_shapedOpen_int (zero:=#[.int .i64 0]) (t:=3) h (of_decide_eq_true (by kernel_rfl)) (by kernel_rfl) rfl (by kernel_rfl) (by kernel_rfl) Tryz.underlying3
end Go.Fo
