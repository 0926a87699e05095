/- Texts that the last one leans on, 9. -/
import Derived.Test.YtncpngfaimipdaaGreatLH
import Derived.Lib.TrimAscii
namespace Go.Fo
open Go Go.Ev
set_option maxRecDepth 100000
theorem make_good {u:wg} (G:Good u) {lo:Nat} (d:Dd) (h2:d.1=2) (hlo:lo<=u.2.2.1.length) (h3:∀ k,k<lo->(u.2.2.1.getD k yH).1<d.2.2.1) (h4:∀ k,lo<=k->k<u.2.2.1.length->¬ (u.2.2.1.getD k yH).1<d.2.2.1)
    (h6:yr u.2.2.1 d.2.2.1=false->∀ k,k<u.2.2.1.length->(u.2.2.1.getD k yH).1≠d.2.2.1) (h:(xz u lo d).2.2.1=0) :
    Good (xz u lo d).1/\yr u.2.2.1 d.2.2.1=false/\xz u lo d=((u.1,u.2.1+1,u.2.2.1.take lo++[((d.2.2.1,(u.2.1+1,(1,([],())))):Bx)]++u.2.2.1.drop lo,()),u.2.1+1,0,()):=by
  have hv:=G.valid
  have hw:zX (u.2.1+1)=u.2.1+1:=zO (by omega) (by omega)
  have e:xz u lo d=((u.1,u.2.1+1,u.2.2.1.take lo++[((d.2.2.1,(u.2.1+1,(1,([],())))):Bx)]++u.2.2.1.drop lo,()),u.2.1+1,0,())/\yr u.2.2.1 d.2.2.1=false/\u.2.2.1.length≠6/\u.2.1≠4294967295:=by
    unfold xz at h ⊢
    rw [if_pos h2] at h ⊢
    cases hh:yr u.2.2.1 d.2.2.1 with
    | true=>rw [hh,if_pos rfl] at h;exact absurd h (by simp)
    | false =>
      rw [hh,if_neg (by simp)] at h
      rw [if_neg (by simp)]
      by_cases hc:u.2.2.1.length=6\/u.2.1=4294967295
      . rw [if_pos hc] at h;exact absurd h (by simp)
      . rw [if_neg hc,hw]
        rw [not_or] at hc
        exact ⟨by simp only [tG,zr],rfl,hc.1,hc.2⟩
  refine ⟨?_,e.2.1,e.1⟩
  rw [e.1]
  have hno:=h6 e.2.1
  have hf:=G.few
  have hmem:∀ b∈u.2.2.1.take lo++[((d.2.2.1,(u.2.1+1,(1,([],())))):Bx)]++u.2.2.1.drop lo,b∈u.2.2.1\/b=(d.2.2.1,(u.2.1+1,(1,([],())))):=λb hb=>by
    rcases List.mem_append.1 hb with hb | hb
    . rcases List.mem_append.1 hb with hb | hb
      . exact .inl (List.mem_of_mem_take hb)
      . exact .inr (List.mem_singleton.1 hb)
    . exact .inl (List.mem_of_mem_drop hb)
  exact {
    few:=by
      simp only [yU,y4,tB,va]
      have:=e.2.2.1
      omega
    rise:=ins_rise G.rise h3 λk hk hk2=>wK (h4 k hk hk2) (hno k hk2)
    each:=λb hb=>by
      rcases hmem b hb with h | rfl
      . exact G.each b h
      . have:=e.2.2.2
        exact ⟨by simp only [yI];omega,by simp [yI],by simp [yI],by simp [yI],by simp [yI]⟩
    valid:=by have:=e.2.2.2;simp only;omega
    below:=λb hb=>by
      rcases hmem b hb with h | rfl
      . have:=G.below b h;simp only;omega
      . exact Int.le_refl _ }
theorem drop_good {u:wg} (G:Good u) {lo:Nat} (d:Dd) (h2:d.1≠2) (h:(xz u lo d).2.2.1=0) :
    Good (xz u lo d).1/\xz u lo d=((u.1,u.2.1,u.2.2.1.take lo++u.2.2.1.drop (lo+1),()),0,0,()):=by
  have e:xz u lo d=((u.1,u.2.1,u.2.2.1.take lo++u.2.2.1.drop (lo+1),()),0,0,()):=by
    unfold xz at h ⊢
    rw [if_neg h2] at h ⊢
    cases hh:yr u.2.2.1 d.2.2.1 with
    | false=>rw [hh,if_pos rfl] at h;exact absurd h (by simp)
    | true =>
      rw [hh,if_neg (by simp)] at h
      rw [if_neg (by simp)]
      by_cases hc:d.2.2.1=inbx
      . rw [if_pos hc] at h;exact absurd h (by simp)
      . rw [if_neg hc]
        simp only [delL,zr]
  refine ⟨?_,e⟩
  rw [e]
  have hs:=del_sub u.2.2.1 lo
  exact {
    few:=Nat.le_trans hs.length_le G.few
    rise:=G.rise.sublist hs
    each:=λb hb=>G.each b (hs.mem hb)
    valid:=G.valid
    below:=λb hb=>G.below b (hs.mem hb) }
abbrev R50:Type:=(Unit×Unit)⊕((Int×Unit)×Unit)
def stp50 (x:Int) (a:Int) (b:Nat):Nat⊕R50:=if x=a then .inr (.inr (((b:Int),()),())) else .inl (b+1)
theorem fold50 (x:Int):∀ (l:List Int) (b:Nat),(x∉l/\zd (stp50 x) (λ_=>(.inl ((),()):R50)) b l=.inl ((),()))\/(x∈l/\∃ n:Nat,zd (stp50 x) (λ_=>(.inl ((),()):R50)) b l=.inr (((n:Int),()),()))
 | [],b=>.inl ⟨by simp,rfl⟩
 | a::t,b=>by
  simp only [zd,stp50]
  by_cases h:x=a
  ·exact .inr ⟨by simp [h],b,by simp [h]⟩
  ·rw [if_neg h]
   rcases fold50 x t (b+1) with ⟨h1,h2⟩ | ⟨h1,n,h2⟩
   ·exact .inl ⟨by simp [h,h1],h2⟩
   ·exact .inr ⟨by simp [h1],n,h2⟩
theorem F84_eq (l:List Int) (x:Int) (hl:l.length<=32):F84 ((l,x,()),())=some (decide (x∈l),()):=by
 have hF:=zK
 have h0:L108_0 ((l,x,((l.length:Nat):Int),(0:Int),()),())=some (zd (stp50 x) (λ_=>(.inl ((),()):R50)) 0 l):=by
  unfold L108_0
  refine zs (b:=0) (f:=B108_0) (λ(_:Nat) i=>((l,x,((l.length:Nat):Int),(i:Int),()),())) l (stp50 x) _ (λb i=>b=i)
   (λb i a hI hi ha=>?_) (λb _=>?_) (by omega) rfl
  ·subst hI
   have hw:=yN (show b<9223372036854775807 by omega)
   simp only [B108_0,ym,yc,hi,zU,Bool.and_true,zG,zr,ha,stp50]
   by_cases h:x=a
   ·exact .inr ⟨_,if_pos h,by simp [h]⟩
   ·refine .inl ⟨_,if_neg h,rfl,?_⟩
    simp only [h,yp,zJ]
    rw [hw]
  ·simp only [B108_0,Int.lt_irrefl,yp,zJ]
 rcases fold50 x l 0 with ⟨h1,h2⟩ | ⟨h1,n,h2⟩
 ·simp only [F84,F108,h0,h2,zE,h1,yp]
  rfl
 ·simp only [F84,F108,h0,h2,zE,h1,zU,yc]
theorem F83_eq (l:List Int) (d:Dd) (hl:l.length<=32):F83 ((l,(),()),(d,()))=some (decide (d.1∈l),(d,())):=by
 obtain ⟨dd,du,db,dt,uid,how,fl,ds,de,by',⟨⟩⟩:=d
 simp only [F83,F84_eq l dd hl,zE]
end Go.Fo
namespace Go.Fo
open Go Go.Ev
set_option maxRecDepth 100000
section
def lowc (c:UInt8):UInt8:=if 65<=c.toNat/\c.toNat<=90 then c+32 else c
theorem tz {α:Type}:∀ (a t:List α) (x y:α),(a++x::t).set a.length y=a++y::t
 | [],_,_,_=>rfl
 | b::a,t,x,y=>by
  simp only [List.cons_append,List.length_cons,List.set_cons_succ,tz a t x y]
theorem drop_cons {α:Type} {s:List α} {i:Nat} {a:α} (hi:i<s.length) (ha:∀ d,s.getD i d=a):s.drop i=a::s.drop (i+1):=by
 rw [List.drop_eq_getElem_cons hi]
 have:=ha s[i]
 rw [xk,List.getElem?_eq_getElem hi] at this
 rw [show s[i]=a from this]
theorem foldS_push {α β τ:Type} (g:α->β) (fin:List β->τ):∀ (s:List α) (b:List β),zd (λa b=>(.inl (b++[g a]):List β⊕τ)) fin b s=fin (b++s.map g)
 | [],b=>by simp [zd]
 | a::t,b=>by
  simp only [zd]
  rw [foldS_push g fin t]
  simp
theorem F125_eq (s:List UInt8) (hs:s.length<=maxLen):F125 ((s,()),())=some (s.map lowc,()):=by
 have hF:maxLen<yn:=by unfold maxLen yn;omega
 have hm:maxLen=9223372036854775807:=rfl
 have h:=zs (f:=B125_0) (λ(b:List UInt8) i=>(((),(),((s.length:Nat):Int),(i:Int),()),(b++s.drop i,()))) s (λa b=>.inl (b++[lowc a])) (λb=>(((),()),(b,()))) (λb i=>b.length=i) (b:=[])
  (λb i a hI hi ha=>.inl ⟨_,rfl,by rw [yU,hI];rfl,by
   subst hI
   have hd:=drop_cons hi ha
   have hlt:b.length<(b++s.drop b.length).length:=by rw [hd];simp
   have hg:(b++s.drop b.length).getD b.length 0=a:=by
    rw [hd,xk,List.getElem?_append_right (Nat.le_refl _)]
    simp
   have hset:(b++s.drop b.length).set b.length (a+32)=b++[a+32]++s.drop (b.length+1):=by
    rw [hd,tz];simp
   have hkeep:b++s.drop b.length=b++[a]++s.drop (b.length+1):=by
    rw [hd];simp
   simp only [B125_0,ym,yc,hi,hlt,zU,Bool.and_true,zG,zr,hg,hset,show UInt8.toNat 65=65 from rfl,show UInt8.toNat 90=90 from rfl]
   unfold lowc
   by_cases h1:65<=a.toNat
   ·by_cases h2:a.toNat<=90
    ·simp only [h1,h2,zU,z8,zG,zE,and_self,↓reduceIte,yN (show b.length<9223372036854775807 by omega)]
    ·simp only [h1,h2,zU,yp,Bool.and_false,zJ,zE,and_false,↓reduceIte,<- hkeep,yN (show b.length<9223372036854775807 by omega)]
   ·simp only [h1,yp,Bool.false_and,zJ,zE,false_and,↓reduceIte,<- hkeep,yN (show b.length<9223372036854775807 by omega)]⟩)
  (λb _=>by simp only [B125_0,Int.lt_irrefl,yp,zJ,List.drop_length,List.append_nil]) (by omega) rfl
 rw [foldS_push] at h
 have h':L125_0 (((),(),((s.length:Nat):Int),(0:Int),()),(s,()))=some (((),()),(s.map lowc,())):=h
 simp only [F125,h',zE]
end
theorem F107_eq (a b:Tx) (ha:a.length<=maxLen) (hb:b.length<=maxLen):F107 ((a,b,()),())=some (decide (a.map lowc=b.map lowc),()):=by
 simp only [F107,F125_eq a ha,F125_eq b hb,zE]
def fld (s:Tx):Tx:=if s.map lowc=inbx.map lowc then inbx else s
theorem F80_eq (s:Tx) (hs:s.length<=maxLen):F80 ((s,()),())=some (fld s,()):=by
 have h:=F107_eq s inbx hs (by decide)
 unfold inbx at h
 unfold fld inbx
 simp only [F80,h,zE]
 by_cases hc:s.map lowc=List.map lowc [73,78,66,79,88]
 ·simp only [hc,zU,zG,↓reduceIte]
 ·simp only [hc,yp,zJ,↓reduceIte]
theorem F85_some (a:Bool) (n x y:Int):∃ b,F85 ((a,n,x,y,()),())=some (b,()):=by
 cases a with
 | false=>exact ⟨decide (n=0),by simp only [F85,yq,zG]⟩
 | true=>exact ⟨decide (x<=n)&&decide (n<=y),by simp only [F85,zu,zJ]⟩
end Go.Fo
namespace Go.Fo
open Go Go.Ev
set_option maxRecDepth 100000
section
def wid (s:List UInt8):Nat:=(Go.Lib.decodeGo ⟨s.toArray⟩).2
theorem wid_eq {s:List UInt8} (h:s≠[]):wid s=(Lib.decodeL s).2:=by
 unfold wid Lib.decodeGo
 have:¬ (⟨s.toArray⟩:ByteArray).size=0:=by
  show ¬ s.toArray.size=0
  simpa using h
 rw [if_neg this]
 rfl
theorem decodeN_4 (n b0 b1 b2 b3:Nat):(Lib.decodeN n b0 b1 b2 b3).2<=4:=by
 unfold Lib.decodeN
 repeat' split
 all_goals simp
theorem wid_pos {s:List UInt8} (h:s≠[]):1<=wid s/\wid s<=s.length/\wid s<=4:=by
 rw [wid_eq h]
 exact ⟨Lib.decodeL_width s,Lib.decodeL_le s h,by rw [Lib.decodeL_N];exact decodeN_4 _ _ _ _ _⟩
theorem dec_at {s:List UInt8} {i:Nat} (_h:i<s.length):Utf8.decode ⟨s.toArray⟩ i=Lib.decodeL (s.drop i):=by
 rw [<- Lib.decodeL_drop]
theorem wid_at {s:List UInt8} {i:Nat} (h:i<s.length):(Utf8.decode ⟨s.toArray⟩ i).2=wid (s.drop i):=by
 have hne:s.drop i≠[]:=by
  intro he
  have:=congrArg List.length he
  rw [tB,List.length_nil] at this
  omega
 rw [wid_eq hne,<- Lib.decodeL_drop]
end
theorem dec_pos (s:List UInt8) (i:Nat) (h:i<s.length):1<=(Utf8.decode ⟨s.toArray⟩ i).2:=by
 rw [wid_at h]
 exact (wid_pos (by rw [ne_eq,List.drop_eq_nil_iff];omega)).1
theorem L63_iter (s:List UInt8):∀ (k i:Nat),s.length-i<k->∃ r,iter uL k ((s,(),()),((s,i),()))=some r
 | 0,_,h=>absurd h (Nat.not_lt_zero _)
 | k+1,i,h=>by
  rw [iter]
  by_cases hi:i<s.length
  ·cases hb:uL ((s,(),()),((s,i),())) with
   | none =>
    exfalso
    simp only [uL,hi,zU,zG] at hb
    revert hb
    generalize (!_)=c
    cases c <;> simp
   | some q =>
    cases q with
    | inr r=>exact ⟨r,rfl⟩
    | inl p =>
     have hp:p=((s,(),()),((s,i+(Utf8.decode ⟨s.toArray⟩ i).2),())):=by
      simp only [uL,hi,zU,zG] at hb
      revert hb
      generalize (!_)=c
      cases c
      ·intro hb
       simp only [zJ,xQ,Sum.inl.injEq] at hb
       exact hb.symm
      ·intro hb
       simp at hb
     subst hp
     have:=dec_pos s i hi
     exact L63_iter s k _ (by omega)
  ·refine ⟨.inl ((s,()),()),?_⟩
   simp only [uL,hi,yp,zJ]
theorem F63_some (s:Tx) (hs:s.length<=maxLen):∃ b,F63 ((s,()),())=some (b,()):=by
 have hF:maxLen<yn:=by unfold maxLen yn;omega
 obtain ⟨r,hr⟩:=L63_iter s yn 0 (by omega)
 have h:L63_0 ((s,(),()),((s,0),()))=some r:=hr
 cases r with
 | inl r=>exact ⟨(!(decide (r.1.1=([]:List UInt8))))&&(decide ((((List.length r.1.1):Nat):Int)<=(24:Int))),by simp only [F63,h,zE]⟩
 | inr r=>exact ⟨false,by simp only [F63,h,zE]⟩
end Go.Fo
namespace Go.Fo
open Go Go.Ev
set_option maxRecDepth 100000
structure GoodM (m:Mp):Prop where
 nodup:(m.map (·.1)).Nodup
 good:∀ (k:Tx) u,zF .str m k=some u->Good (usr u)
theorem GoodM.nil:GoodM []:=⟨List.nodup_nil,λk u h=>by cases h⟩
theorem GoodM.set {m:Mp} (G:GoodM m) (k:Tx) (u:wg) (hu:Good u):GoodM (zZ .str m k (u.1,(u.2.1,(u.2.2.1,())))) where
 nodup:=tA KE_str G.nodup
 good:=λk' u' h=>by
  rw [vz KE_str G.nodup] at h
  cases hk:yh .str k' k with
  | true =>
   rw [hk,zG,xQ] at h
   subst h
   exact hu
  | false =>
   rw [hk,zJ] at h
   exact G.good k' u' h
end Go.Fo
namespace Go.Fo
open Go Go.Ev
set_option maxRecDepth 100000
abbrev Ls:Type:=List (List UInt8)
def lets:Nat->List UInt8->Ls
 | 0,_=>[]
 | n+1,s=>if s=[] then [] else s.take (wid s)::lets n (s.drop (wid s))
theorem lets_len:∀ (n:Nat) (s:List UInt8),(lets n s).length<=n
 | 0,s=>by simp [lets]
 | n+1,s=>by
  unfold lets
  split
  ·simp
  ·simp only [List.length_cons]
   have:=lets_len n (s.drop (wid s));omega
theorem lets_nil (n:Nat):lets n []=[]:=by cases n <;> simp [lets]
theorem bytes16 {n:Nat} (h:n<=2000000):zC n 16=true:=by
 unfold zC
 simp
 omega
theorem F408_eq {s:List UInt8} (hs:s.length<=1100000):F408 ((s,()),())=some ((),(lets s.length s,())):=by
 obtain ⟨r,h1,h2⟩:=yE (f:=B408_0) (λp=>∃ (t:List UInt8) (out:Ls) (n:Nat),p=((t,(),()),(out,()))/\t.length<=n/\out.length+n<=s.length/\out++lets n t=lets s.length s) (λp=>p.1.1.length)
  (λr=>r=(((),()),(lets s.length s,())))
  (λp ⟨t,out,n,hp,ht,ho,hl⟩=>by
   subst hp
   by_cases h0:t=[]
   ·right
    subst h0
    rw [lets_nil,List.append_nil] at hl
    exact ⟨_,by rw [<- hl];rfl,rfl⟩
   ·left
    obtain ⟨w1,w2,w3⟩:=wid_pos h0
    have hwd:(Go.Lib.decodeGo ⟨List.toArray t⟩).2=wid t:=rfl
    have hpos:0<t.length:=List.length_pos_iff.2 h0
    obtain ⟨n,rfl⟩:∃ m,n=m+1:=⟨n-1,by omega⟩
    have c1:decide ((0:Int)<((t.length:Nat):Int))=true:=zW (by omega)
    have c2:decide ((0:Int)<=((wid t:Nat):Int))=true:=zW (by omega)
    have c3:decide (((wid t:Nat):Int)<=((t.length:Nat):Int))=true:=zW (by omega)
    have c4:zC (out.length+[List.take (wid t) t].length) 16=true:=bytes16 (by simp<;>omega)
    refine ⟨((t.drop (wid t),(),()),(out++[t.take (wid t)],())),?_,⟨t.drop (wid t),out++[t.take (wid t)],n,rfl,by rw [tB];omega,by simp;omega,?_⟩,?_⟩
    ·simp only [B408_0,hwd,c1,zG,c2,c3,zr,c4,z8,zE,Int.le_refl,zU]
     rw [List.take_of_length_le (by simp)]
    ·rw [<- hl]
     simp only [lets]
     rw [if_neg h0]
     simp
    ·simp only [tB];omega)
  (p:=((s,(),()),([],()))) ⟨s,[],s.length,rfl,Nat.le_refl _,by simp,rfl⟩ (by unfold yn;simp only;omega)
 subst h2
 have h1':L408_0 ((s,(),()),([],()))=some (((),()),(lets s.length s,())):=h1
 simp only [F408,h1',zE]
open Go.Qw (pln)
def enc (c:Nat):List UInt8:=(ByteArray.data (Go.Utf8.encode (c:Int))).toList
theorem enc_rune (r:Nat) (h1:r<=1114111) (h2:r<55296\/57344<=r):enc r=Lib.encodeRune (r:Int):=by
 have v:Utf8.valid (r:Int)=true:=by simp [Utf8.valid];omega
 have hb:∀ (x:Int) (n:Nat),x=(n:Int)->UInt8.ofNat n=x.toNat.toUInt8:=λx n h=>by subst h;simp
 unfold enc Lib.encodeRune
 by_cases c1:r<128
 ·rw [Lib.encodeRuneZ_one (by omega) (by omega)]
  simp [Utf8.encode,v,c1]
 ·by_cases c2:r<2048
  ·rw [Lib.encodeRuneZ_two (by omega) (by omega)]
   simp only [List.map_cons,List.map_nil]
   rw [<- hb (192+(r:Int)/64) (192+r/64) (by omega),<- hb (128+(r:Int) % 64) (128+r % 64) (by omega)]
   simp [Utf8.encode,v,c1,c2]
  ·by_cases c3:r<65536
   ·rw [Lib.encodeRuneZ_three (by omega)]
    simp only [List.map_cons,List.map_nil]
    rw [<- hb (224+(r:Int)/4096) (224+r/4096) (by omega),<- hb (128+(r:Int)/64 % 64) (128+r/64 % 64) (by omega),<- hb (128+(r:Int) % 64) (128+r % 64) (by omega)]
    simp [Utf8.encode,v,c1,c2,c3]
   ·rw [Lib.encodeRuneZ_four (by omega) (by omega)]
    simp only [List.map_cons,List.map_nil]
    rw [<- hb (240+(r:Int)/262144) (240+r/262144) (by omega),<- hb (128+(r:Int)/4096 % 64) (128+r/4096 % 64) (by omega),<- hb (128+(r:Int)/64 % 64) (128+r/64 % 64) (by omega),<- hb (128+(r:Int) % 64) (128+r % 64) (by omega)]
    simp [Utf8.encode,v,c1,c2,c3]
theorem dec_valid (l:List UInt8):(Lib.decodeL l).1<=1114111/\((Lib.decodeL l).1<55296\/57344<=(Lib.decodeL l).1):=by
 have k0:=(l.getD 0 0).toNat_lt
 rw [Lib.decodeL_N]
 rcases Lib.decodeN_shape l.length (l.getD 0 0).toNat (l.getD 1 0).toNat (l.getD 2 0).toNat (l.getD 3 0).toNat with ⟨c,e⟩ | ⟨c1,c2,c3,cv,e⟩ | ⟨c1,c2,c3,c4,cv,cs,e⟩ | ⟨c1,c2,c3,c4,c5,cv,cw,e⟩ | e
 all_goals (rw [e];dsimp only;omega)
theorem enc_take (l:List UInt8) (hne:l≠[]) (hv:¬ ((Lib.decodeL l).1=65533/\(Lib.decodeL l).2=1)):enc (Lib.decodeL l).1=l.take (Lib.decodeL l).2:=by
 rw [<- Lib.encode_decode l hne hv]
 exact enc_rune _ (dec_valid l).1 (dec_valid l).2
theorem vf (l:List UInt8) (w i:Nat):(l.take w).getD i 0=if i<w then l.getD i 0 else 0:=by
 rw [xk,xk,List.getElem?_take]
 split <;> rfl
theorem dec_take (l:List UInt8) (hne:l≠[]):Lib.decodeL (l.take (Lib.decodeL l).2)=Lib.decodeL l:=by
 have hl:0<l.length:=List.length_pos_iff.2 hne
 have k0:=(l.getD 0 0).toNat_lt
 have hN:=Lib.decodeL_N l
 rcases Lib.decodeN_shape l.length (l.getD 0 0).toNat (l.getD 1 0).toNat (l.getD 2 0).toNat (l.getD 3 0).toNat with ⟨c,e⟩ | ⟨c1,c2,c3,cv,e⟩ | ⟨c1,c2,c3,c4,cv,cs,e⟩ | ⟨c1,c2,c3,c4,c5,cv,cw,e⟩ | e
 ·rw [e] at hN
  rw [hN,Lib.decodeL_N]
  simp only [vf,Nat.lt_one_iff,if_true,Lib.decodeN,c]
 ·rw [e] at hN
  rw [hN,Lib.decodeL_N]
  have hm:(l.take 2).length=2:=by rw [y4];omega
  simp only [vf,hm,Lib.decodeN,show (0:Nat)<2 from by omega,show (1:Nat)<2 from by omega,if_true]
  rw [if_neg (by omega),if_pos ⟨c1,trivial,c3⟩,if_pos cv]
 ·rw [e] at hN
  rw [hN,Lib.decodeL_N]
  have hm:(l.take 3).length=3:=by rw [y4];omega
  simp only [vf,hm,Lib.decodeN,show (0:Nat)<3 from by omega,show (1:Nat)<3 from by omega,show (2:Nat)<3 from by omega,if_true]
  rw [if_neg (by omega),if_neg (by omega),if_pos ⟨c1,⟨trivial,c3⟩,trivial,c4⟩,if_pos ⟨cv,by omega⟩]
 ·rw [e] at hN
  rw [hN,Lib.decodeL_N]
  have hm:(l.take 4).length=4:=by rw [y4];omega
  simp only [vf,hm,Lib.decodeN,show (0:Nat)<4 from by omega,show (1:Nat)<4 from by omega,show (2:Nat)<4 from by omega,show (3:Nat)<4 from by omega,if_true]
  rw [if_neg (by omega),if_neg (by omega),if_neg (by omega),if_pos ⟨c1,⟨trivial,c3⟩,⟨trivial,c4⟩,trivial,c5⟩,if_pos ⟨cv,by omega⟩]
 ·rw [e] at hN
  rw [hN,Lib.decodeL_N]
  have hm:(l.take 1).length=1:=by rw [y4];omega
  have h128:¬ (l.getD 0 0).toNat<128:=λh=>by
   have:Lib.decodeN l.length (l.getD 0 0).toNat (l.getD 1 0).toNat (l.getD 2 0).toNat (l.getD 3 0).toNat=((l.getD 0 0).toNat,1):=by
    unfold Lib.decodeN;rw [if_pos h]
   rw [e] at this
   have:=congrArg Prod.fst this
   simp only at this
   omega
  simp only [vf,hm,Lib.decodeN,Nat.lt_one_iff,if_true]
  rw [if_neg h128,if_neg (by omega),if_neg (by omega),if_neg (by omega)]
theorem dec_low (l:List UInt8):((l.getD 0 0).toNat<128->Lib.decodeL l=((l.getD 0 0).toNat,1))/\(128<=(l.getD 0 0).toNat->128<=(Lib.decodeL l).1):=by
 have k0:=(l.getD 0 0).toNat_lt
 have hN:=Lib.decodeL_N l
 refine ⟨λh=>?_,λh=>?_⟩
 ·rw [hN];unfold Lib.decodeN;rw [if_pos h]
 ·rcases Lib.decodeN_shape l.length (l.getD 0 0).toNat (l.getD 1 0).toNat (l.getD 2 0).toNat (l.getD 3 0).toNat with ⟨c,e⟩ | ⟨c1,c2,c3,cv,e⟩ | ⟨c1,c2,c3,c4,cv,cs,e⟩ | ⟨c1,c2,c3,c4,c5,cv,cw,e⟩ | e
  all_goals (rw [hN,e];dsimp only;omega)
theorem F409_eq (r:List UInt8) (hne:r≠[]) (hr:r.length<=8000000):F409 ((r.take (Lib.decodeL r).2,()),())=some (pln (Lib.decodeL r).1 (Lib.decodeL r).2,()):=by
 obtain ⟨h1,h2⟩:=dec_low r
 have hd:=dec_take r hne
 have hw:=Lib.decodeL_width r
 have hle:=Lib.decodeL_le r hne
 have hlen:(r.take (Lib.decodeL r).2).length=(Lib.decodeL r).2:=by rw [y4];omega
 have hne':r.take (Lib.decodeL r).2≠[]:=λh=>by rw [h] at hlen;simp at hlen;omega
 have hv:Lib.validD (r.take (Lib.decodeL r).2)=!decide ((Lib.decodeL r).1=65533/\(Lib.decodeL r).2=1):=by
  rw [Lib.validD_step _ hne',hd,List.drop_eq_nil_of_le (by omega),Lib.validD_nil]
  by_cases h:(Lib.decodeL r).1=65533/\(Lib.decodeL r).2=1
  ·rw [if_pos h,zW h];rfl
  ·rw [if_neg h,zz h];rfl
 have h3:¬ ((Lib.decodeL r).1=65533/\(Lib.decodeL r).2=1)->(Lib.decodeL r).1=65533->(Lib.decodeL r).2=3:=λh h'=>by
  have e:=enc_take r hne h
  rw [h'] at e
  have:=congrArg List.length e
  rw [hlen] at this
  have e3:(enc 65533).length=3:=by decide
  omega
 have e0:(r.take (Lib.decodeL r).2).getD 0 0=r.getD 0 0:=by rw [vf,if_pos (by omega)]
 have f1:decide ((r.take (Lib.decodeL r).2).length<=9223372036854775807)=true:=zW (by omega)
 have f2:decide ((0:Int)<(((r.take (Lib.decodeL r).2).length:Nat):Int))=true:=zW (by omega)
 have z:UInt8.toNat 32=32:=rfl
 unfold F409
 simp only [f1,f2,Bool.true_or,zG,hv,e0,z]
 generalize Lib.decodeL r=d at *
 generalize r.getD 0 0=a at *
 have h127:decide (a=(127:UInt8))=decide (a.toNat=127):=by
  rw [decide_eq_decide]
  exact ⟨λh=>by rw [h];rfl,λh=>UInt8.toNat_inj.1 h⟩
 rw [h127]
 congr 2
 unfold pln
 by_cases ha:a.toNat<128
 ·rw [h1 ha]
  by_cases q1:32<=a.toNat
  ·by_cases q2:a.toNat=127
   ·simp [q2]
   ·have q3:¬ (a.toNat:Int)=127:=by omega
    have q4:¬ (a.toNat:Int)=65533:=by omega
    have q5:(32:Int)<=(a.toNat:Int):=by omega
    have q6:¬ a.toNat=65533:=by omega
    simp [q1,q2,q3,q4,q5,q6]
  ·have q5:¬ (32:Int)<=(a.toNat:Int):=by omega
   simp [q1,q5]
 ·have h4:=h2 (by omega)
  have q1:32<=a.toNat:=by omega
  have q2:¬ a.toNat=127:=by omega
  have q3:(32:Int)<=(d.1:Int):=by omega
  have q4:¬ (d.1:Int)=127:=by omega
  rw [zW q1,zz q2,zW q3,zz q4]
  by_cases hbad:d.1=65533/\d.2=1
  ·have q5:(d.1:Int)=65533:=by omega
   have q6:¬ (d.2:Int)=3:=by omega
   rw [zW hbad,zW q5,zz q6];rfl
  ·rw [zz hbad]
   by_cases h5:d.1=65533
   ·have h6:=h3 hbad h5
    have q5:(d.1:Int)=65533:=by omega
    have q6:(d.2:Int)=3:=by omega
    rw [zW q5,zW q6];rfl
   ·have q5:¬ (d.1:Int)=65533:=by omega
    rw [zz q5];rfl
def allP:Nat->List UInt8->Bool
 | 0,_=>true
 | k+1,r=>if r=[] then true else Go.Qw.pln (Lib.decodeL r).1 (Lib.decodeL r).2&&allP k (r.drop (Lib.decodeL r).2)
theorem quoF_err:∀ (k:Nat) (r:List UInt8) (place:Nat) (out:List UInt8),(Go.Qw.quoF k r place out).2.2=if allP k r=true then 0 else 4
 | 0,r,place,out=>rfl
 | k+1,r,place,out=>by
  unfold Go.Qw.quoF allP
  by_cases h:r=[]
  ·rw [if_pos h,if_pos h];rfl
  ·rw [if_neg h,if_neg h]
   cases hp:Go.Qw.pln (Lib.decodeL r).1 (Lib.decodeL r).2
   ·simp
   ·rw [if_pos rfl,quoF_err k,Bool.true_and]
def qok (s:List UInt8):Bool:=decide (s.length<=1024)&&allP s.length s
theorem quo_err (s:List UInt8):decide ((Go.Qw.quo s).2.2=0)=qok s:=by
 unfold Go.Qw.quo qok
 by_cases h:1024<s.length
 ·rw [if_pos h]
  have:¬ s.length<=1024:=by omega
  simp [this]
 ·rw [if_neg h]
  have h':s.length<=1024:=by omega
  rw [quoF_err]
  cases allP s.length s <;> simp [h']
noncomputable def pl (x:List UInt8):Bool:=match F409 ((x,()),()) with
 | some (b,_)=>b
 | none=>false
theorem lets_plain:∀ (n:Nat) (r:List UInt8),r.length<=n->r.length<=8000000 ->
  (∀ x∈lets n r,F409 ((x,()),())=some (pl x,())/\x.length<=4)/\(lets n r).all pl=allP n r
 | 0,r,_,_=>⟨λx hx=>by simp [lets] at hx,rfl⟩
 | n+1,r,hn,hr=>by
  unfold lets allP
  by_cases h:r=[]
  ·rw [if_pos h,if_pos h]
   exact ⟨λx hx=>by simp at hx,rfl⟩
  ·rw [if_neg h,if_neg h]
   have hw:=wid_eq h
   obtain ⟨w1,w2,w3⟩:=wid_pos h
   rw [hw] at w1 w2 w3 ⊢
   have hp:=F409_eq r h hr
   have hpl:pl (r.take (Lib.decodeL r).2)=Go.Qw.pln (Lib.decodeL r).1 (Lib.decodeL r).2:=by
    unfold pl
    rw [hp]
   obtain ⟨h1,h2⟩:=lets_plain n (r.drop (Lib.decodeL r).2) (by simp<;>omega) (by simp<;>omega)
   refine ⟨λx hx=>?_,?_⟩
   ·rcases List.mem_cons.mp hx with rfl | hx
    ·exact ⟨by rw [hp,hpl],by simp;omega⟩
    ·exact h1 x hx
   ·rw [List.all_cons,h2,hpl]
theorem F379_err (s:List UInt8) (hs:s.length<=1100000):∃ o p,F379 ((s,()),())=some ((o,p,if qok s=true then 0 else if 1024<s.length then 6 else 4,()),()):=by
 unfold F379
 by_cases h:1024<s.length
 ·have h1:decide ((1024:Int)<((s.length:Nat):Int))=true:=zW (by omega)
  have h2:qok s=false:=by unfold qok;simp;omega
  simp only [h1,zG]
  exact ⟨[],0,by rw [h2];simp [h]⟩
 ·have h1:decide ((1024:Int)<((s.length:Nat):Int))=false:=zz (by omega)
  have h2:qok s=allP s.length s:=by unfold qok;simp;omega
  simp only [h1,zJ,F408_eq hs,zE]
  obtain ⟨hx,hall⟩:=lets_plain s.length s (Nat.le_refl _) (by omega)
  have hL:(lets s.length s).length<=s.length:=lets_len s.length s
  generalize lets s.length s=L at hx hall hL
  have hF:=zK
  have hw:=zs (f:=B379_0) (λ(b:List UInt8×Nat) i=>(((),b.1,(i:Int),()),(L,()))) L
   (λa b=>if pl a=true then .inl ((if a=[34]\/a=[92] then b.1++[92] else b.1)++a,b.2+1) else .inr (.inr (((),(b.2:Int),(),()),())))
   (λb=>.inl ((b.1,()),())) (λb i=>b.1.length<=1+5*i/\b.2=i) (b:=([34],0))
   (λb i a hI hi ha=>by
    obtain ⟨hI1,hI2⟩:=hI
    obtain ⟨f1,f2⟩:=hx a (by have:=ha [];rw [xk,List.getElem?_eq_getElem hi] at this;simp at this;rw [<- this];exact List.getElem_mem hi)
    have d0:decide ((i:Int)<((L.length:Nat):Int))=true:=zW (by omega)
    have d1:decide ((0:Int)<=(i:Int))=true:=zW (by omega)
    have g1:L.getD (Int.toNat (i:Int)) []=a:=by rw [zr];exact ha []
    have w1:zX ((i:Int)+1)=((i+1:Nat):Int):=by rw [zO (by omega) (by omega)];rfl
    have b1:fits (b.1.length+([92]:List UInt8).length)=true:=zW (by simp<;>omega)
    have b2:fits (b.1.length+a.length)=true:=zW (by omega)
    have b3:fits ((b.1++[92]).length+a.length)=true:=zW (by simp<;>omega)
    cases hpl:pl a
    ·right
     refine ⟨_,if_neg (by simp),?_⟩
     simp only [B379_0,d0,d1,z8,zG,g1,f1,hpl,zE,yq,hI2]
    ·left
     refine ⟨_,if_pos rfl,⟨?_,by simp [hI2]⟩,?_⟩
     ·by_cases hq:a=[34]\/a=[92]
      ·simp [if_pos hq];omega
      ·simp [if_neg hq];omega
     ·by_cases hq:a=[34]\/a=[92]
      ·have hq':(decide (a=[34])||decide (a=[92]))=true:=by simpa using hq
       simp only [B379_0,d0,d1,z8,zG,g1,f1,hpl,zE,zu,zJ,Bool.true_or,hq',b1,b3,w1,if_pos hq]
      ·have hq':(decide (a=[34])||decide (a=[92]))=false:=by simpa using hq
       simp only [B379_0,d0,d1,z8,zG,g1,f1,hpl,zE,zu,zJ,Bool.true_or,hq',b2,w1,if_neg hq])
   (λb _=>by
    have d0:decide (((L.length:Nat):Int)<((L.length:Nat):Int))=false:=by simp
    simp only [B379_0,d0,zJ])
   (by omega) ⟨by simp,rfl⟩
  have hw':L379_0 (((),[34],0,()),(L,()))=_:=hw
  rw [hw']
  have hfold:∀ (M:List (List UInt8)) (b:List UInt8×Nat),b.1.length<=1+5*b.2->b.2+M.length<=1100000->(∀ x∈M,x.length<=4) ->
    (M.all pl=true->∃ b':List UInt8×Nat,b'.1.length<=6000000/\zd (λa b=>if pl a=true then .inl ((if a=[34]\/a=[92] then b.1++[92] else b.1)++a,b.2+1) else .inr (.inr (((),(b.2:Int),(),()),())))
     (λb:List UInt8×Nat=>(.inl ((b.1,()),()):((List UInt8×Unit)×Unit)⊕((Unit×Int×Unit×Unit)×Unit))) b M=.inl ((b'.1,()),())) /\
    (M.all pl=false->∃ p:Int,zd (λa b=>if pl a=true then .inl ((if a=[34]\/a=[92] then b.1++[92] else b.1)++a,b.2+1) else .inr (.inr (((),(b.2:Int),(),()),())))
     (λb:List UInt8×Nat=>(.inl ((b.1,()),()):((List UInt8×Unit)×Unit)⊕((Unit×Int×Unit×Unit)×Unit))) b M=.inr (((),p,(),()),())):=by
   intro M
   induction M with
   | nil=>exact λb h1 h2 _=>⟨λ_=>⟨b,by simp at h2;omega,rfl⟩,λh=>by simp at h⟩
   | cons a M ih =>
    intro b h1 h2 h3
    simp only [List.length_cons] at h2
    have ha:=h3 a (by simp)
    have:=ih ((if a=[34]\/a=[92] then b.1++[92] else b.1)++a,b.2+1) (by
     by_cases hq:a=[34]\/a=[92]
     ·simp [if_pos hq];omega
     ·simp [if_neg hq];omega) (by simp only;omega) (λx hx=>h3 x (by simp [hx]))
    cases hpl:pl a
    ·refine ⟨λh=>by simp [hpl] at h,λ_=>⟨(b.2:Int),?_⟩⟩
     simp only [zd,hpl,Bool.false_eq_true,if_false]
    ·simp only [List.all_cons,hpl,Bool.true_and]
     simp only [zd,hpl,if_true]
     exact this
  obtain ⟨q1,q2⟩:=hfold L ([34],0) (by simp) (by simp only;omega) λx hx'=>(hx x hx').2
  rw [h2,<- hall]
  cases hA:L.all pl
  ·obtain ⟨p,hp⟩:=q2 hA
   rw [hp]
   exact ⟨[],p,by simp [h]⟩
  ·obtain ⟨b',hb,hp⟩:=q1 hA
   rw [hp]
   have b1:fits (b'.1.length+([34]:List UInt8).length)=true:=zW (by simp<;>omega)
   simp only [zE,b1,zG]
   exact ⟨b'.1++[34],0,by simp⟩
end Go.Fo
namespace Go.Fo
open Go Go.Ev
set_option maxRecDepth 100000
def goodL:List UInt8:=[97,98,99,100,101,102,103,104,105,106,107,108,109,110,111,112,113,114,115,116,117,118,119,120,121,122,48,49,50,51,52,53,54,55,56,57,46,45,95]
def okc (c:UInt8):Bool:=goodL.any λg=>decide (c=g)
def okn (n:Int):Bool:=((((decide (97<=n)&&decide (n<=122))||(decide (48<=n)&&decide (n<=57)))||decide (n=46))||decide (n=45))||decide (n=95)
theorem okc_all:((List.range 256).all λn=>okc (UInt8.ofNat n) == okn (n:Int))=true:=by decide +kernel
theorem okc_eq (c:UInt8):okc c=okn (c.toNat:Int):=by
 have h:=List.all_eq_true.1 okc_all c.toNat (List.mem_range.2 c.toNat_lt)
 rw [UInt8.ofNat_toNat] at h
 exact eq_of_beq h
theorem okn_big {n:Nat} (h:128<=n):okn (n:Int)=false:=by
 unfold okn
 simp
 omega
def yl (s:Tx):Bool:=s.all okc&&decide (1<=s.length)&&decide (s.length<=24)
theorem drop_all {s:List UInt8} {i:Nat} (h:i<s.length):s.drop i=s.getD i 0::s.drop (i+1):=by
 rw [List.drop_eq_getElem_cons h,xk,List.getElem?_eq_getElem h]
 rfl
theorem L63_good (s:List UInt8):∀ (k i:Nat) (r:(Tx×Unit)×Unit),iter uL k ((s,(),()),((s,i),()))=some (.inl r)->r=((s,()),())/\(s.drop i).all okc=true
 | 0,_,_,h=>by simp [iter] at h
 | k+1,i,r,h=>by
  rw [iter] at h
  by_cases hi:i<s.length
  ·have hd:Utf8.decode ⟨s.toArray⟩ i=Lib.decodeL (s.drop i):=dec_at hi
   have hb:uL ((s,(),()),((s,i),()))=cond (!okn ((Lib.decodeL (s.drop i)).1:Int)) (some (Sum.inr (Sum.inr (((),()),())))) (some (Sum.inl ((s,(),()),((s,(i+(Lib.decodeL (s.drop i)).2)),())))):=by
    rw [<- hd]
    simp only [uL,hi,zU,zG]
    rfl
   rw [hb] at h
   cases hn:okn ((Lib.decodeL (s.drop i)).1:Int) with
   | false=>rw [hn] at h;simp at h
   | true =>
    rw [hn] at h
    simp only [zu,zJ] at h
    obtain ⟨l1,l2⟩:=dec_low (s.drop i)
    have hlow:((s.drop i).getD 0 0).toNat<128:=by
     rcases Nat.lt_or_ge ((s.drop i).getD 0 0).toNat 128 with h' | h'
     ·exact h'
     ·exfalso
      rw [okn_big (l2 h')] at hn
      cases hn
    have hdl:=l1 hlow
    rw [hdl] at h hn
    obtain ⟨h1,h2⟩:=L63_good s k (i+1) r h
    refine ⟨h1,?_⟩
    have e:=drop_all hi
    rw [e,List.all_cons,h2,Bool.and_true,okc_eq]
    rw [e] at hn
    exact hn
  ·simp only [uL,hi,yp,zJ] at h
   cases h
   refine ⟨rfl,?_⟩
   rw [List.drop_eq_nil_of_le (by omega)]
   rfl
theorem F63_good {s:Tx} (h:F63 ((s,()),())=some (true,())) (hs:s.length<=maxLen):yl s=true:=by
 have hF:maxLen<yn:=by unfold maxLen yn;omega
 obtain ⟨r,hr⟩:=L63_iter s yn 0 (by omega)
 have hL:L63_0 ((s,(),()),((s,0),()))=some r:=hr
 cases r with
 | inr r=>simp only [F63,hL,zE] at h;simp at h
 | inl r =>
  obtain ⟨h1,h2⟩:=L63_good s yn 0 r hr
  subst h1
  simp only [F63,hL,zE,xQ,Prod.mk.injEq,and_true,yk,Bool.not_eq_true',decide_eq_false_iff_not,xX] at h
  rw [List.drop_zero] at h2
  unfold yl
  have:1<=s.length:=List.length_pos_iff.2 h.1
  simp only [h2,this,zU,Bool.and_true,Bool.true_and,xX]
  omega
theorem foldS_all {α τ:Type} (q:α->Bool) (r f:τ):∀ (l:List α),zd (λa (_:Unit)=>if q a=true then (.inl ():Unit⊕τ) else .inr r) (λ_=>f) () l=if l.all q=true then f else r
 | []=>rfl
 | a::t=>by
  have ih:=foldS_all q r f t
  simp only [zd,List.all_cons]
  rcases Bool.eq_false_or_eq_true (q a) with hq | hq
  ·simp only [hq,↓reduceIte,Bool.true_and,ih]
  ·simp only [hq,Bool.false_eq_true,↓reduceIte,Bool.false_and]
theorem foldS_any {α τ:Type} (q:α->Bool) (f:Bool->τ):∀ (l:List α) (b:Bool),zd (λa b=>(.inl (b||q a):Bool⊕τ)) f b l=f (b||l.any q)
 | [],b=>by simp [zd]
 | a::t,b=>by
  simp only [zd,List.any_cons]
  rw [foldS_any q f t,Bool.or_assoc]
theorem L365_1_eq (s:Tx) (i:Nat) (hi:i<s.length):L365_1 ((s,(i:Int),false,(0:Int),()),())=some ((s,(i:Int),okc (s.getD i 0),()),()):=by
 have hF:=zK
 unfold L365_1
 refine (yL (f:=B365_1) (λ(b:Bool) k=>((s,(i:Int),b,(k:Int),()),())) goodL (λa b=>.inl (b||decide (s.getD i 0=a))) (λb=>((s,(i:Int),b,()),()))
  (λb k a hk ha=>?_) (λb=>?_) (by show 39<yn;omega) (b:=false)).trans ?_
 ·have hk39:k<39:=hk
  have c0:decide ((k:Int)<39)=true:=zW (by omega)
  have c1:decide ((0:Int)<=(i:Int))=true:=zW (by omega)
  have c2:decide ((i:Int)<((s.length:Nat):Int))=true:=zW (by omega)
  have c3:decide ((0:Int)<=(k:Int))=true:=zW (by omega)
  have w1:zX ((k:Int)+1)=((k+1:Nat):Int):=by rw [zO (by omega) (by omega)];rfl
  have ha':List.getD ([97,98,99,100,101,102,103,104,105,106,107,108,109,110,111,112,113,114,115,116,117,118,119,120,121,122,48,49,50,51,52,53,54,55,56,57,46,45,95]:List UInt8) k 0=a:=ha 0
  simp only [B365_1,c0,c1,c2,c3,z8,Bool.true_or,zG,zr,zE,ha',w1]
 ·have c0:decide (((goodL.length:Nat):Int)<39)=false:=rfl
  simp only [B365_1,c0,zJ]
 ·rw [foldS_any (λa=>decide (s.getD i 0=a)),Bool.false_or]
  rfl
theorem wa (s:Tx) (hs:s.length<=maxLen):F365 ((s,()),())=some (yl s,()):=by
 have hF:maxLen<yn:=by unfold maxLen yn;omega
 have hm:maxLen<=9223372036854775807:=by unfold maxLen;omega
 have hn:s.length<yn:=Nat.lt_of_le_of_lt hs hF
 have hL:L365_0 ((s,(0:Int),()),())=some (if s.all okc=true then (.inl ((s,()),()):((Tx×Unit)×Unit)⊕((Unit×Unit)×Unit)) else .inr (((),()),())):=by
  unfold L365_0
  refine (yL (f:=B365_0) (λ(_:Unit) i=>((s,(i:Int),()),())) s (λa _=>if okc a=true then .inl () else .inr (.inr (((),()),()))) (λ_=>.inl ((s,()),()))
   (λb i a hi ha=>?_) (λb=>?_) hn (b:=())).trans ?_
  ·have c0:decide ((i:Int)<((s.length:Nat):Int))=true:=zW (by omega)
   have w1:zX ((i:Int)+1)=((i+1:Nat):Int):=by rw [zO (by omega) (by omega)];rfl
   have e:=L365_1_eq s i hi
   rw [ha 0] at e
   cases hq:okc a
   ·simp only [B365_0,c0,zG,e,zE,hq,yq,Bool.false_eq_true,↓reduceIte]
   ·simp only [B365_0,c0,zG,e,zE,hq,zu,zJ,↓reduceIte,w1]
  ·simp only [B365_0,Int.lt_irrefl,yp,zJ]
  ·rw [foldS_all]
 simp only [F365,hL,zE]
 unfold yl
 cases s.all okc
 ·simp
 ·have e1:decide ((1:Int)<=((s.length:Nat):Int))=decide (1<=s.length):=by rw [decide_eq_decide];omega
  have e2:decide (((s.length:Nat):Int)<=24)=decide (s.length<=24):=by rw [decide_eq_decide];omega
  simp only [↓reduceIte,zE,e1,e2,Bool.true_and]
noncomputable def zl (s:Tx):Bool:=decide (1<=s.length)&&decide (s.length<=24)&&qok s&&decide (fld s=s)
theorem F64_eq (s:Tx):F64 ((s,()),())=some (zl s,()):=by
 have hq:decide ((quo s).2.2=0)=qok s:=quo_err s
 have e2:decide (((s.length:Nat):Int)<=24)=decide (s.length<=24):=by rw [decide_eq_decide];omega
 have e1:(!(decide (s=([]:List UInt8))))=decide (1<=s.length):=by
  cases s <;> simp
 unfold zl
 simp only [F64,e1,e2,hq]
 cases hc:(decide (1<=s.length)&&decide (s.length<=24))&&qok s with
 | false=>simp
 | true =>
  have hl:s.length<=24:=by
   simp only [yk,xX] at hc
   omega
  simp only [zG,F80_eq s (Nat.le_trans hl (by decide)),zE,Bool.true_and]
theorem F410_eq (s:Tx) (hs:s.length<=1100000):F410 ((s,()),())=some (s.map lowc,()):=by
 have hF:=zK
 have hL:L410_0 ((s,([]:List UInt8),(0:Int),()),())=some ((s.map lowc,()),()):=by
  unfold L410_0
  refine (zs (f:=B410_0) (λ(b:List UInt8) i=>((s,b,(i:Int),()),())) s (λa b=>.inl (b++[lowc a])) (λb=>((b,()),())) (λb i=>b.length=i)
   (λb i a hI hi ha=>?_) (λb _=>?_) (by omega) (b:=[]) rfl).trans ?_
  ·left
   refine ⟨_,rfl,by simp [hI],?_⟩
   have c0:decide ((i:Int)<((s.length:Nat):Int))=true:=zW (by omega)
   have c1:decide ((0:Int)<=(i:Int))=true:=zW (by omega)
   have w1:zX ((i:Int)+1)=((i+1:Nat):Int):=by rw [zO (by omega) (by omega)];rfl
   have b1:∀ c:UInt8,fits (b.length+([c]:List UInt8).length)=true:=λc=>zW (by simp<;>omega)
   have z1:UInt8.toNat 65=65:=rfl
   have z2:UInt8.toNat 90=90:=rfl
   simp only [B410_0,c0,c1,z8,zG,zr,ha 0,z1,z2]
   unfold lowc
   by_cases h1:65<=a.toNat
   ·by_cases h2:a.toNat<=90
    ·simp only [h1,h2,zU,z8,zG,zE,b1,w1,and_self,↓reduceIte]
    ·simp only [h1,h2,zU,yp,Bool.and_false,zJ,zG,zE,b1,w1,and_false,↓reduceIte]
   ·simp only [h1,yp,Bool.false_and,zJ,zG,zE,b1,w1,false_and,↓reduceIte]
  ·simp only [B410_0,Int.lt_irrefl,yp,zJ]
  ·rw [foldS_push]
   rfl
 simp only [F410,hL,zE]
theorem F380_eq (s:Tx) (hs:s.length<=1100000):F380 ((s,()),())=some (fld s,()):=by
 have hi:List.map lowc inbx=[105,110,98,111,120]:=by decide
 simp only [F380,F410_eq s hs,zE]
 unfold fld
 rw [hi]
 by_cases h:s.map lowc=[105,110,98,111,120]
 ·simp only [h,zU,zG,↓reduceIte]
  rfl
 ·simp only [h,yp,zJ,↓reduceIte]
theorem yV (s:Tx) (hs:s.length<=1100000):F366 ((s,()),())=some (zl s,()):=by
 obtain ⟨o,p,h⟩:=F379_err s hs
 have e1:decide ((1:Int)<=((s.length:Nat):Int))=decide (1<=s.length):=by rw [decide_eq_decide];omega
 have e2:decide (((s.length:Nat):Int)<=24)=decide (s.length<=24):=by rw [decide_eq_decide];omega
 have hq:decide ((if qok s=true then 0 else if 1024<s.length then 6 else 4:Int)=0)=qok s:=by
  cases qok s
  ·by_cases h':1024<s.length <;> simp [h']
  ·simp
 unfold zl
 simp only [F366,h,zE,e1,e2,hq]
 cases hc:(decide (1<=s.length)&&decide (s.length<=24))&&qok s with
 | false=>simp
 | true=>simp only [zG,F380_eq s hs,zE,Bool.true_and]
theorem bl_eq:∀ (a b:Tx),Op.bytesLess a b=decide (a<b)
 | [],[]=>by simp [Op.bytesLess]
 | [],b::bs=>by simp [Op.bytesLess]
 | a::r,[]=>by simp [Op.bytesLess]
 | a::r,b::bs=>by
  have ih:=bl_eq r bs
  simp only [Op.bytesLess,ih,List.cons_lt_cons_iff]
  by_cases h1:a<b
  ·simp [h1]
  ·by_cases h2:a=b
   ·simp [h2]
   ·simp [h1,h2]
def ug (c:Int×Int) (b:Bx):Int×Int:=(zX (c.1+(b.2.2.2.1.length:Int)),zX (c.2+size b.2.2.2.1))
def xL (ls:List Bx):Int×Int:=ls.foldl ug (0,0)
theorem held_foldl:∀ (ls:List Bx) (c:Int×Int),zd heldS (λc=>((c.1,c.2,()),())) c ls=(((ls.foldl ug c).1,(ls.foldl ug c).2,()),())
 | [],_=>rfl
 | b::t,c=>held_foldl t (ug c b)
theorem held_eq (ls:List Bx):held ls=(((xL ls).1,(xL ls).2,()),()):=held_foldl ls (0,0)
theorem heldL_succ {ls:List Bx} {i:Nat} (h:i<ls.length):xL (ls.take (i+1))=ug (xL (ls.take i)) (ls.getD i yH):=by
 unfold xL
 rw [List.take_succ_eq_append_getElem h,List.foldl_append,xk,List.getElem?_eq_getElem h]
 rfl
structure Fine (u:wg):Prop where
 good:Good u
 user:yl u.1=true
 names:∀ b∈u.2.2.1,zl b.1=true
 inb:∃ b∈u.2.2.1,b.1=inbx
 room:wth u.2.2.1=true
theorem Right.prev {ls:List yO} (h:ls.Pairwise (λa b=>a.1<b.1)) {j:Nat} (hj:j+1<ls.length):(ls.getD j u7).1<(ls.getD (j+1) u7).1:=getD_lt h (Nat.lt_succ_self j) hj u7
theorem F367_eq {b:wI} (R:Right b):F367 ((b,()),())=some (0,()):=by
 obtain ⟨nm,v,n,ls,⟨⟩⟩:=b
 have hF:=zK
 have h1:=R.valid
 have h2:=R.next
 have h3:=R.few
 have h4:=R.each
 have h5:=R.rise
 simp only at h1 h2 h3 h4 h5
 have c1:decide (v<1)=false:=zz (by omega)
 have c2:decide (4294967295<v)=false:=zz (by omega)
 have c3:decide (n<1)=false:=zz (by omega)
 have c4:decide (4294967295<n)=false:=zz (by omega)
 have c5:decide ((32:Int)<((ls.length:Nat):Int))=false:=zz (by omega)
 have hL:L367_0 (((),(0:Int),()),((nm,v,n,ls,()),()))=some (.inl ((),())):=by
  unfold L367_0
  refine (yL (f:=B367_0) (λ(_:Unit) i=>(((),(i:Int),()),((nm,v,n,ls,()),()))) ls (λ_ _=>.inl ()) (λ_=>.inl ((),()))
   (λb i a hi ha=>?_) (λb=>?_) (by omega) (b:=())).trans ?_
  ·have hm:a∈ls:=by
    have:=ha u7
    rw [xk,List.getElem?_eq_getElem hi] at this
    rw [<- this]
    exact List.getElem_mem hi
   obtain ⟨l1,l2,l3,l4⟩:=h4 a hm
   have d0:decide ((i:Int)<((ls.length:Nat):Int))=true:=zW (by omega)
   have d1:decide ((0:Int)<=(i:Int))=true:=zW (by omega)
   have d2:decide (a.1<1)=false:=zz (by omega)
   have d3:decide (n<=a.1)=false:=zz (by omega)
   have d4:decide (31<a.2.1.toNat)=false:=zz (by omega)
   have d5:decide ((600:Int)<((a.2.2.1.length:Nat):Int))=false:=zz (by omega)
   have w1:zX ((i:Int)+1)=((i+1:Nat):Int):=by rw [zO (by omega) (by omega)];rfl
   have z:UInt8.toNat 31=31:=rfl
   have ha':=ha u7
   cases i with
   | zero =>
    have p0:decide ((0:Int)<((0:Nat):Int))=false:=rfl
    simp only [B367_0,d0,d1,z8,zG,zr,ha',zE,p0,d2,d3,Bool.false_and,Bool.or_false,yq,Bool.or_true,zJ,z,d4,d5,w1]
   | succ j =>
    have p0:decide ((0:Int)<((j+1:Nat):Int))=true:=zW (by omega)
    have w2:zX (((j+1:Nat):Int)-1)=(j:Int):=by rw [zO (by omega) (by omega)];omega
    have p1:decide ((0:Int)<=(j:Int))=true:=zW (by omega)
    have p2:decide ((j:Int)<((ls.length:Nat):Int))=true:=zW (by omega)
    have hr:=Right.prev h5 hi
    rw [ha'] at hr
    have p3:decide (a.1<=(ls.getD j u7).1)=false:=zz (by omega)
    simp only [B367_0,d0,d1,z8,zG,zr,ha',zE,p0,w2,p1,p2,p3,Bool.true_or,d2,d3,Bool.and_false,Bool.or_false,zJ,z,d4,d5,w1]
  ·simp only [B367_0,Int.lt_irrefl,yp,zJ]
  ·have:∀ l:List yO,zd (λ(_:yO) (_:Unit)=>(.inl ():Unit⊕((Unit×Unit)⊕((Int×Unit)×Unit)))) (λ_=>.inl ((),())) () l=.inl ((),()):=λl=>by
    induction l with
    | nil=>rfl
    | cons a t ih=>exact ih
   rw [this]
 simp only [F367,c1,c2,c3,c4,c5,Bool.or_self,zJ,hL,zE]
theorem F368_eq (b:wI) (hl:b.2.2.2.1.length<=32):F368 ((b,()),())=some (size b.2.2.2.1,()):=by
 obtain ⟨nm,v,n,ls,⟨⟩⟩:=b
 have hF:=zK
 change ls.length<=32 at hl
 have h:L368_0 (((),(0:Int),(0:Int),()),((nm,v,n,ls,()),()))=some (zd (λ(l:yO) n=>(.inl (zX (n+(l.2.2.1.length:Int))):Int⊕((Int×Unit)×Unit))) (λn=>((n,()),())) 0 ls):=by
  unfold L368_0
  refine yL (f:=B368_0) (λb i=>(((),b,(i:Int),()),((nm,v,n,ls,()),()))) ls _ _ (λb i a hi ha=>?_) (λb=>by simp only [B368_0,Int.lt_irrefl,yp,zJ]) (by omega)
  simp only [B368_0,ym,yc,hi,zU,Bool.and_true,zG,zE,zr,ha,yN (show i<9223372036854775807 by omega)]
 have e:=foldS_map (λn:Int=>((n,()),())) (step:=λ(l:yO) n=>(.inl (zX (n+(l.2.2.1.length:Int))):Int⊕Int)) (fin:=id) ls 0
 simp only [id_eq] at e
 rw [e] at h
 simp only [F368,h,zE,size]
structure Upon (u:wg) (i:Nat):Prop where
 each:∀ k,k<i->zl (u.2.2.1.getD k yH).1=true/\Right (yI (u.2.2.1.getD k yH))/\(u.2.2.1.getD k yH).2.1<=u.2.1
 rise:∀ k,k+1<i->(u.2.2.1.getD k yH).1<(u.2.2.1.getD (k+1) yH).1
abbrev R13:Type:=((Bool×Int×Int×Unit)×Unit)⊕((Int×Unit)×Unit)
abbrev R44:Type:=((Int×Int×Bool×Unit)×Unit)⊕((Int×Unit)×Unit)
def has1 (ls:List Bx):Bool:=ls.any λb=>decide (b.1=inbx)
theorem has1_succ {ls:List Bx} {i:Nat} (h:i<ls.length):has1 (ls.take (i+1))=(has1 (ls.take i)||decide ((ls.getD i yH).1=inbx)):=by
 unfold has1
 rw [List.take_succ_eq_append_getElem h,List.any_append,xk,List.getElem?_eq_getElem h]
 simp
theorem L47_ex (u:wg) (hl:u.2.2.1.length<=6):∃ r:R44,L47_0 (((),(0:Int),(0:Int),false,u.2.2.1,((u.2.2.1.length:Nat):Int),(0:Int),()),((u.1,u.2.1,u.2.2.1,()),()))=some r /\
  match r with
  | .inl q=>q=(((xL u.2.2.1).1,(xL u.2.2.1).2,has1 u.2.2.1,()),())/\Upon u u.2.2.1.length
  | .inr q=>q.1.1≠0:=by
 obtain ⟨un,uv,ls,⟨⟩⟩:=u
 change ls.length<=6 at hl
 have hF:=zK
 unfold L47_0
 refine yE (f:=uj) (λp=>∃ i:Nat,i<=ls.length/\p=(((),(xL (ls.take i)).1,(xL (ls.take i)).2,has1 (ls.take i),ls,((ls.length:Nat):Int),(i:Int),()),((un,uv,ls,()),()))/\Upon (un,uv,ls,()) i)
  (λp=>ls.length-p.1.2.2.2.2.2.2.1.toNat) (λr:R44=>match r with
   | .inl q=>q=(((xL ls).1,(xL ls).2,has1 ls,()),())/\Upon (un,uv,ls,()) ls.length
   | .inr q=>q.1.1≠0) ?_ ⟨0,Nat.zero_le _,rfl,⟨λk hk=>absurd hk (Nat.not_lt_zero _),λk hk=>absurd hk (Nat.not_lt_zero _)⟩⟩ (by simp only;omega)
 rintro p ⟨i,hi,rfl,U⟩
 rcases Nat.lt_or_ge i ls.length with h | h
 ·have d0:decide ((i:Int)<((ls.length:Nat):Int))=true:=zW (by omega)
  have d1:decide ((0:Int)<=(i:Int))=true:=zW (by omega)
  have w1:zX ((i:Int)+1)=((i+1:Nat):Int):=by rw [zO (by omega) (by omega)];rfl
  have hs:=heldL_succ h
  have ho:=has1_succ h
  obtain ⟨⟨bn,bv,bx,bl,⟨⟩⟩,hb⟩:∃ b,ls.getD i yH=b:=⟨_,rfl⟩
  rw [hb] at hs ho
  have hgd:ls.getD i (([]:List UInt8),((0:Int),((0:Int),(([]:(List yO)),()))))=(bn,bv,bx,bl,()):=hb
  have e70:=F64_eq bn
  have e71:=F65_eq (bn,bv,bx,bl,())
  have g:((decide ((0:Int)<=zX ((i:Int)-(1:Int)))&&decide (zX ((i:Int)-(1:Int))<((ls.length:Nat):Int)))||(!(decide ((0:Int)<(i:Int))&&(!(!(zl bn))))))=true:=by
   cases i with
   | zero=>simp
   | succ j =>
    have w2:zX (((j+1:Nat):Int)-1)=(j:Int):=by rw [zO (by omega) (by omega)];omega
    rw [w2,zW (show (0:Int)<=(j:Int) by omega),zW (show (j:Int)<((ls.length:Nat):Int) by omega)]
    rfl
  obtain ⟨bad,hbad⟩:∃ x,((!(zl bn))||(decide ((0:Int)<(i:Int))&&(Op.bytesLess bn (ls.getD (Int.toNat (zX ((i:Int)-(1:Int)))) (([]:List UInt8),((0:Int),((0:Int),(([]:(List yO)),()))))).1||decide (bn=(ls.getD (Int.toNat (zX ((i:Int)-(1:Int)))) (([]:List UInt8),((0:Int),((0:Int),(([]:(List yO)),()))))).1))))=x:=⟨_,rfl⟩
  cases bad with
  | true =>
   right
   refine ⟨.inr ((4,()),()),?_,by show (4:Int)≠0;omega⟩
   simp only [uj,d0,d1,z8,zG,zr,hgd,zE,e70,g,hbad]
  | false =>
   by_cases hc:y7 (bn,bv,bx,bl,())=0
   ·have R:=check_zero.1 hc
    have e72:=F66_eq (bn,bv,bx,bl,()) (Nat.le_trans R.few (by decide))
    by_cases hv:uv<bv
    ·right
     refine ⟨.inr ((2,()),()),?_,by show (2:Int)≠0;omega⟩
     simp only [uj,d0,d1,z8,zG,zr,hgd,zE,e70,g,hbad,zJ,e71,hc,zU,zu,zW hv]
    ·left
     have hn:zl bn=true:=by
      revert hbad
      cases zl bn <;> simp
     refine ⟨_,?_,⟨i+1,h,rfl,?_⟩,?_⟩
     ·simp only [uj,d0,d1,z8,zG,zr,hgd,zE,e70,g,hbad,zJ,e71,hc,zU,zu,zz hv,e72,hs,ho,w1,ug]
      rfl
     ·refine ⟨λk hk=>?_,λk hk=>?_⟩
      ·rcases Nat.lt_or_ge k i with h' | h'
       ·exact U.each k h'
       ·obtain rfl:k=i:=by omega
        show zl (ls.getD k yH).1=true/\Right (yI (ls.getD k yH))/\(ls.getD k yH).2.1<=uv
        rw [hb]
        exact ⟨hn,R,by simp only;omega⟩
      ·rcases Nat.lt_or_ge (k+1) i with h' | h'
       ·exact U.rise k h'
       ·obtain rfl:i=k+1:=by omega
        show (ls.getD k yH).1<(ls.getD (k+1) yH).1
        rw [hb]
        have w2:zX (((k+1:Nat):Int)-1)=(k:Int):=by rw [zO (by omega) (by omega)];omega
        rw [w2,zr,hn,zW (show (0:Int)<((k+1:Nat):Int) by omega),bl_eq] at hbad
        simp only [zu,Bool.false_or,Bool.true_and,Bool.or_eq_false_iff,decide_eq_false_iff_not] at hbad
        exact wK hbad.1 hbad.2
     ·simp only;omega
   ·right
    refine ⟨.inr ((y7 (bn,bv,bx,bl,()),()),()),?_,hc⟩
    simp only [uj,d0,d1,z8,zG,zr,hgd,zE,e70,g,hbad,zJ,e71,zz hc,yq]
 ·have hi':i=ls.length:=by omega
  subst hi'
  right
  rw [List.take_length] at *
  refine ⟨.inl (((xL ls).1,(xL ls).2,has1 ls,()),()),?_,rfl,U⟩
  simp only [uj,Int.lt_irrefl,yp,zJ]
theorem rise_of {ls:List Bx} (h:∀ k,k+1<ls.length->(ls.getD k yH).1<(ls.getD (k+1) yH).1):ls.Pairwise (λa b=>a.1<b.1):=by
 rw [List.pairwise_iff_getElem]
 have key:∀ (n i:Nat),i+n+1<ls.length->(ls.getD i yH).1<(ls.getD (i+n+1) yH).1:=by
  intro n
  induction n with
  | zero=>exact λi hi=>h i hi
  | succ n ih=>exact λi hi=>List.lt_trans (ih i (by omega)) (h (i+n+1) hi)
 intro i j hi hj hij
 have:=key (j-i-1) i (by omega)
 rw [show i+(j-i-1)+1=j by omega,xk,xk,List.getElem?_eq_getElem hi,List.getElem?_eq_getElem hj] at this
 exact this
theorem F47_ex (u:wg) (hu:u.1.length<=maxLen):∃ e,F47 ((u,()),())=some (e,())/\(e=0->Fine u):=by
  obtain ⟨un,uv,ls,⟨⟩⟩:=u
  change un.length<=maxLen at hu
  obtain ⟨b,hb⟩:=F63_some un hu
  cases b with
  | false=>exact ⟨4,by simp only [F47,hb,zE,yq,zG],λh=>by cases h⟩
  | true =>
    by_cases h1:uv<1\/4294967295<uv
    . refine ⟨2,?_,λh=>by cases h⟩
      have:(decide (uv<1)||decide (4294967295<uv))=true:=by simpa using h1
      simp only [F47,hb,zE,zu,zJ,this,zG]
    . have c1:(decide (uv<1)||decide (4294967295<uv))=false:=by simp;omega
      by_cases h2:ls.length=0\/6<ls.length
      . refine ⟨8,?_,λh=>by cases h⟩
        have:(decide (((ls.length:Nat):Int)=0)||decide ((6:Int)<((ls.length:Nat):Int)))=true:=by
          rw [Bool.or_eq_true,xX,xX];omega
        simp only [F47,hb,zE,zu,zJ,c1,this,zG]
      . have c2:(decide (((ls.length:Nat):Int)=0)||decide ((6:Int)<((ls.length:Nat):Int)))=false:=by
          rw [Bool.or_eq_false_iff];exact ⟨zz (by omega),zz (by omega)⟩
        obtain ⟨r,hr,hq⟩:=L47_ex (un,uv,ls,()) (by show ls.length<=6;omega)
        simp only at hr hq
        cases r with
        | inr q =>
          refine ⟨q.1.1,?_,λh=>absurd h hq⟩
          simp only [F47,hb,zE,zu,zJ,c1,c2,hr]
        | inl q =>
          obtain ⟨rfl,U⟩:=hq
          cases h3:has1 ls with
          | false=>exact ⟨4,by simp only [F47,hb,zE,zu,zJ,c1,c2,hr,h3,yq,zG],λh=>by cases h⟩
          | true =>
            by_cases h4:40<(xL ls).1\/1200<(xL ls).2
            . refine ⟨8,?_,λh=>by cases h⟩
              have:(decide (40<(xL ls).1)||decide (1200<(xL ls).2))=true:=by simpa using h4
              simp only [F47,hb,zE,zu,zJ,c1,c2,hr,h3,this,zG]
            . have c3:(decide (40<(xL ls).1)||decide (1200<(xL ls).2))=false:=by simp;omega
              refine ⟨0,by simp only [F47,hb,zE,zu,zJ,c1,c2,hr,h3,c3],λ_=>?_⟩
              have hm:∀ b∈ls,zl b.1=true/\Right (yI b)/\b.2.1<=uv:=λb hb'=>by
                obtain ⟨i,hi,rfl⟩:=List.getElem_of_mem hb'
                have:=U.each i hi
                simp only [xk,List.getElem?_eq_getElem hi,Option.getD_some] at this
                exact this
              exact {
                good:=⟨by show ls.length<=6;omega,rise_of U.rise,λb hb'=>(hm b hb').2.1,by show 1<=uv/\uv<=4294967295;omega,λb hb'=>(hm b hb').2.2⟩
                user:=F63_good hb hu
                names:=λb hb'=>(hm b hb').1
                inb:=by
                  unfold has1 at h3
                  obtain ⟨b,hb1,hb2⟩:=List.any_eq_true.1 h3
                  exact ⟨b,hb1,of_decide_eq_true hb2⟩
                room:=by
                  show wth ls=true
                  unfold wth
                  rw [held_eq]
                  simp only [yk,xX]
                  omega }
theorem w7 {s:Tx} (h:zl s=true):s.length<=24:=by
 unfold zl at h
 simp only [yk,xX] at h
 omega
theorem user_le {s:Tx} (h:yl s=true):s.length<=24:=by
 unfold yl at h
 simp only [yk,xX] at h
 omega
theorem F347_eq {u:wg} (G:Fine u):F347 ((u,()),())=some (0,()):=by
 obtain ⟨un,uv,ls,⟨⟩⟩:=u
 have hF:=zK
 have g1:=G.good.few
 have g2:=G.good.valid
 have g3:=G.good.rise
 have g4:=G.good.each
 have g5:=G.good.below
 have g6:=G.names
 have g7:=G.inb
 have g8:=G.room
 have e32:=wa un (Nat.le_trans (user_le G.user) (by decide))
 rw [show yl un=true from G.user] at e32
 simp only at g1 g2 g3 g4 g5 g6 g7 g8
 have c1:(decide (uv<1)||decide (4294967295<uv))=false:=by simp;omega
 have hpos:1<=ls.length:=by
  obtain ⟨b,hb,_⟩:=g7
  exact List.length_pos_of_mem hb
 have c2:(decide (((ls.length:Nat):Int)<1)||decide ((6:Int)<((ls.length:Nat):Int)))=false:=by simp;omega
 have hL:L347_0 (((),false,(0:Int),(0:Int),(0:Int),()),((un,uv,ls,()),()))=some (.inl ((has1 ls,(xL ls).1,(xL ls).2,()),())):=by
  unfold L347_0
  refine (zs (f:=uN) (λ(b:Bool×(Int×Int)) i=>(((),b.1,b.2.1,b.2.2,(i:Int),()),((un,uv,ls,()),()))) ls (λa b=>.inl (b.1||decide (a.1=inbx),ug b.2 a)) (λb=>.inl ((b.1,b.2.1,b.2.2,()),())) (λ_ _=>True)
   (λb i a _ hi ha=>?_) (λb _=>?_) (by omega) (b:=(false,(0,0))) trivial).trans ?_
  ·refine .inl ⟨_,rfl,trivial,?_⟩
   have hm:a∈ls:=by
    have:=ha yH
    rw [xk,List.getElem?_eq_getElem hi] at this
    rw [<- this]
    exact List.getElem_mem hi
   have e33:=yV a.1 (Nat.le_trans (w7 (g6 a hm)) (by decide))
   rw [g6 a hm] at e33
   have e34:=F367_eq (g4 a hm)
   have e35:=F368_eq (yI a) (g4 a hm).few
   unfold yI at e34 e35
   have d0:decide ((i:Int)<((ls.length:Nat):Int))=true:=zW (by omega)
   have d1:decide ((0:Int)<=(i:Int))=true:=zW (by omega)
   have d2:decide (uv<a.2.1)=false:=zz (by have:=g5 a hm;omega)
   have w1:zX ((i:Int)+1)=((i+1:Nat):Int):=by rw [zO (by omega) (by omega)];rfl
   have ha':=ha yH
   have hin:(decide (a.1=([73,78,66,79,88]:List UInt8)))=decide (a.1=inbx):=rfl
   cases i with
   | zero =>
    have p0:decide ((0:Int)<((0:Nat):Int))=false:=rfl
    simp only [uN,d0,d1,z8,zG,zr,ha',zE,e33,p0,zu,yq,Bool.false_and,Bool.or_true,Bool.or_self,zJ,e34,zU,d2,e35,hin,w1,ug]
   | succ j =>
    have p0:decide ((0:Int)<((j+1:Nat):Int))=true:=zW (by omega)
    have w2:zX (((j+1:Nat):Int)-1)=(j:Int):=by rw [zO (by omega) (by omega)];omega
    have p1:decide ((0:Int)<=(j:Int))=true:=zW (by omega)
    have p2:decide ((j:Int)<((ls.length:Nat):Int))=true:=zW (by omega)
    have hr:=getDb_lt g3 (Nat.lt_succ_self j) hi yH
    rw [show j.succ=j+1 from rfl,ha'] at hr
    have p3:Op.bytesLess a.1 (ls.getD j yH).1=false:=by
     rw [bl_eq]
     exact zz (List.lt_asymm hr)
    have p4:decide (a.1=(ls.getD j yH).1)=false:=zz λh=>by
     rw [h] at hr
     exact List.lt_irrefl _ hr
    simp only [uN,d0,d1,z8,zG,zr,ha',zE,e33,p0,w2,p1,p2,p3,p4,Bool.true_or,zu,Bool.and_false,Bool.or_self,zJ,e34,zU,d2,e35,hin,w1,ug]
  ·simp only [uN,Int.lt_irrefl,yp,zJ]
  ·have:∀ (l:List Bx) (b:Bool×(Int×Int)),zd (λ(a:Bx) (b:Bool×(Int×Int))=>(.inl (b.1||decide (a.1=inbx),ug b.2 a):(Bool×(Int×Int))⊕R13)) (λb=>.inl ((b.1,b.2.1,b.2.2,()),())) b l=.inl ((b.1||has1 l,(l.foldl ug b.2).1,(l.foldl ug b.2).2,()),()):=λl=>by
    induction l with
    | nil=>intro b;simp [zd,has1]
    | cons a t ih =>
     intro b
     simp only [zd]
     rw [ih]
     simp only [has1,List.any_cons,List.foldl_cons,Bool.or_assoc]
   rw [this]
   simp only [Bool.false_or,xL]
 have h3:has1 ls=true:=by
  obtain ⟨b,hb1,hb2⟩:=g7
  exact List.any_eq_true.2 ⟨b,hb1,zW hb2⟩
 unfold wth at g8
 rw [held_eq] at g8
 simp only [yk,xX] at g8
 have c3:(decide (40<(xL ls).1)||decide (1200<(xL ls).2))=false:=by simp;omega
 simp only [F347,e32,zE,zu,zJ,c1,c2,hL,h3,c3]
theorem or64 (a b:Nat) (ha:a<4611686018427387904) (hb:b<4611686018427387904):wX .or .i64 (a:Int) (b:Int)=((a ||| b:Nat):Int):=by
 have hx:a ||| b<4611686018427387904:=Nat.or_lt_two_pow (n:=62) ha hb
 have e:wX .or .i64 (a:Int) (b:Int)=zX ((BitVec.ofInt 64 (a:Int) ||| BitVec.ofInt 64 (b:Int)).toNat:Int):=rfl
 rw [e,BitVec.ofInt_natCast,BitVec.ofInt_natCast,BitVec.toNat_or,BitVec.toNat_ofNat,BitVec.toNat_ofNat]
 rw [Nat.mod_eq_of_lt (show a<2^64 by omega),Nat.mod_eq_of_lt (show b<2^64 by omega)]
 exact zO (by omega) (by omega)
theorem vY (l:List UInt8) (n:Nat):F111 (((),(n:Int),()),((l,()),()))=some (if l.length<n then (.inr (3,()),((l,()),())) else (.inl (l.take n),((l.drop n,()),()))):=by
 by_cases h:l.length<n
 ·have c0:decide (((l.length:Nat):Int)<(n:Int))=true:=zW (by omega)
  simp only [F111,c0,zG,zE,h,↓reduceIte]
 ·have c0:decide (((l.length:Nat):Int)<(n:Int))=false:=zz (by omega)
  have c1:decide ((0:Int)<=(n:Int))=true:=zW (by omega)
  have c2:decide ((n:Int)<=((l.length:Nat):Int))=true:=zW (by omega)
  simp only [F111,c0,zJ,zE,h,↓reduceIte,c1,c2,Int.le_refl,zU,z8,zG,zr]
  rw [show (l.drop n).take (l.length-n)=l.drop n from List.take_of_length_le (by rw [tB];omega)]
theorem L89_ex (l bs:List UInt8) (hb:bs.length<=4):∃ v:Nat,L89_0 (((),(0:Int),bs,((bs.length:Nat):Int),(0:Int),()),((l,()),()))=some (((),(v:Int),()),((l,()),()))/\v<256^bs.length:=by
 have hF:=zK
 obtain ⟨r,h1,h2⟩:=yE (f:=B89_0) (λp=>∃ i v:Nat,i<=bs.length/\v<256^i/\p=(((),(v:Int),bs,((bs.length:Nat):Int),(i:Int),()),((l,()),()))) (λp=>bs.length-p.1.2.2.2.2.1.toNat)
  (λr=>∃ v:Nat,r=(((),(v:Int),()),((l,()),()))/\v<256^bs.length) (λp ⟨i,v,hi,hv,hp⟩=>by
   subst hp
   rcases Nat.lt_or_ge i bs.length with h | h
   ·left
    have hp4:(256:Nat)^i<=256^3:=Nat.pow_le_pow_right (by omega) (by omega)
    have d0:decide ((i:Int)<((bs.length:Nat):Int))=true:=zW (by omega)
    have d1:decide ((0:Int)<=(i:Int))=true:=zW (by omega)
    have w1:zX ((i:Int)+1)=((i+1:Nat):Int):=by rw [zO (by omega) (by omega)];rfl
    have hv':v*256<4611686018427387904:=by
     have:(256:Nat)^3=16777216:=rfl
     omega
    have w2:zX ((v:Int)*2^8)=((v*256:Nat):Int):=by rw [zO (by omega) (by omega)];omega
    have hc:=(bs.getD i 0).toNat_lt
    have o:wX .or .i64 ((v*256:Nat):Int) (((bs.getD i 0).toNat:Nat):Int)=((v*256 ||| (bs.getD i 0).toNat:Nat):Int):=or64 _ _ hv' (by omega)
    refine ⟨_,by simp only [B89_0,d0,d1,z8,zG,zr,w1,w2,o],⟨i+1,v*256 ||| (bs.getD i 0).toNat,h,?_,rfl⟩,?_⟩
    ·have e:(256:Nat)^(i+1)=2^(8*(i+1)):=by rw [Nat.pow_mul]
     rw [e]
     refine Nat.or_lt_two_pow ?_ ?_
     ·rw [<- e,Nat.pow_succ]
      exact Nat.mul_lt_mul_of_pos_right hv (by omega)
     ·refine Nat.lt_of_lt_of_le (show (bs.getD i 0).toNat<2^8 from hc) (Nat.pow_le_pow_right (by omega) (by omega))
    ·simp only;omega
   ·right
    have hi':i=bs.length:=by omega
    subst hi'
    exact ⟨(((),(v:Int),()),((l,()),())),by simp only [B89_0,Int.lt_irrefl,yp,zJ],v,rfl,hv⟩)
  (p:=(((),(0:Int),bs,((bs.length:Nat):Int),(0:Int),()),((l,()),()))) ⟨0,0,Nat.zero_le _,by simp,rfl⟩ (by simp only;omega)
 obtain ⟨v,rfl,hv⟩:=h2
 exact ⟨v,h1,hv⟩
theorem sE (l:List UInt8) (n:Nat) (hn:n<=4):∃ r l',F89 (((),(n:Int),()),((l,()),()))=some (r,((l',()),()))/\∀ v,r=.inl v->∃ k:Nat,v=(k:Int)/\k<256^n:=by
 have e:=vY l n
 by_cases h:l.length<n
 ·rw [if_pos h] at e
  exact ⟨.inr (3,()),l,by simp only [F89,e,zE],λv hv=>by cases hv⟩
 ·rw [if_neg h] at e
  have ht:(l.take n).length=n:=by rw [y4];omega
  obtain ⟨v,h1,h2⟩:=L89_ex (l.drop n) (l.take n) (by omega)
  rw [ht] at h2
  exact ⟨.inl (v:Int),l.drop n,by simp only [F89,e,zE,h1],λw hw=>by cases hw;exact ⟨v,rfl,h2⟩⟩
theorem F88_ex (l:List UInt8):∃ r l',F88 (((),()),((l,()),()))=some (r,((l',()),()))/\∀ s,r=.inl s->s.length<=255:=by
 obtain ⟨r,l1,e1,h1⟩:=sE l 1 (by omega)
 rw [show ((1:Nat):Int)=1 from rfl] at e1
 cases r with
 | inr q=>exact ⟨.inr (q.1,()),l1,by simp only [F88,e1,zE],λs hs=>by cases hs⟩
 | inl v =>
  obtain ⟨k,rfl,hk⟩:=h1 v rfl
  have e2:=vY l1 k
  by_cases h:l1.length<k
  ·rw [if_pos h] at e2
   exact ⟨.inr (3,()),l1,by simp only [F88,e1,zE,e2],λs hs=>by cases hs⟩
  ·rw [if_neg h] at e2
   refine ⟨.inl (l1.take k),l1.drop k,by simp only [F88,e1,zE,e2],λs hs=>?_⟩
   cases hs
   rw [y4]
   omega
theorem F35_eq' (l:List UInt8) (h:l.length<=100000):F35 ((l,()),())=some ((),(l,())):=by
 have hb:zC (0+l.length) 1=true:=zT (by omega)
 cases l with
 | nil=>simp only [F35,List.isEmpty_nil,zG,hb,List.append_nil,zR]
 | cons a t=>simp only [F35,List.isEmpty_cons,zJ,hb,zG,List.nil_append]
theorem F90_ex (l:List UInt8):∃ r l',F90 (((),()),((l,()),()))=some (r,((l',()),())):=by
 obtain ⟨r,l1,e1,h1⟩:=sE l 2 (by omega)
 rw [show ((2:Nat):Int)=2 from rfl] at e1
 cases r with
 | inr q=>exact ⟨.inr (q.1,()),l1,by simp only [F90,e1,zE]⟩
 | inl v =>
  obtain ⟨k,rfl,hk⟩:=h1 v rfl
  have e2:=vY l1 k
  by_cases h:l1.length<k
  ·rw [if_pos h] at e2
   exact ⟨.inr (3,()),l1,by simp only [F90,e1,zE,e2]⟩
  ·rw [if_neg h] at e2
   have e3:=F35_eq' (l1.take k) (by rw [y4];omega)
   exact ⟨.inl (l1.take k),l1.drop k,by simp only [F90,e1,zE,e2,e3]⟩
abbrev NmT:Type:=Tx×Int×Unit×Unit
abbrev BnT:Type:=Tx×Int×Int×Unit×Unit
theorem L87_1_ex (l:List UInt8) (N:NmT) (bxs:List Bx) (B:BnT) (c0 i0:Int) (cnt:Nat) (hc:cnt<=255) :
  ∃ r,L87_1 (((),(),(),c0,i0,(cnt:Int),(0:Int),()),((l,()),N,bxs,B,([]:List yO),()))=some r /\
   match r with
   | .inl q=>∃ l' ls',q=(((),(),(),c0,i0,()),((l',()),N,bxs,B,ls',()))
   | .inr q=>∃ e l',q=(((e,()),()),((l',()),N,bxs,())):=by
 obtain ⟨nn,nv,⟨⟩,⟨⟩⟩:=N
 obtain ⟨bn,bv,bx,⟨⟩,⟨⟩⟩:=B
 have hF:=zK
 unfold L87_1
 refine yE (f:=uh) (λp=>∃ (i:Nat) (l':List UInt8) (ls:List yO),i<=cnt/\ls.length<=i/\p=(((),(),(),c0,i0,(cnt:Int),(i:Int),()),((l',()),(nn,nv,(),()),bxs,(bn,bv,bx,(),()),ls,()))) (λp=>cnt-p.1.2.2.2.2.2.2.1.toNat) _ ?_
  ⟨0,l,[],Nat.zero_le _,Nat.le_refl _,rfl⟩ (by simp only;omega)
 rintro p ⟨i,l',ls,hi,hl,rfl⟩
 rcases Nat.lt_or_ge i cnt with h | h
 ·have d0:decide ((i:Int)<(cnt:Int))=true:=zW (by omega)
  have w1:zX ((i:Int)+1)=((i+1:Nat):Int):=by rw [zO (by omega) (by omega)];rfl
  obtain ⟨r1,l1,e1,-⟩:=sE l' 4 (by omega)
  rw [show ((4:Nat):Int)=4 from rfl] at e1
  cases r1 with
  | inr q=>exact .inr ⟨.inr (((q.1,()),()),((l1,()),(nn,nv,(),()),bxs,())),by simp only [uh,d0,zG,e1,zE],_,_,rfl⟩
  | inl v1 =>
   obtain ⟨r2,l2,e2,-⟩:=sE l1 1 (by omega)
   rw [show ((1:Nat):Int)=1 from rfl] at e2
   cases r2 with
   | inr q=>exact .inr ⟨.inr (((q.1,()),()),((l2,()),(nn,nv,(),()),bxs,())),by simp only [uh,d0,zG,e1,zE,e2],_,_,rfl⟩
   | inl v2 =>
    obtain ⟨r3,l3,e3⟩:=F90_ex l2
    cases r3 with
    | inr q=>exact .inr ⟨.inr (((q.1,()),()),((l3,()),(nn,nv,(),()),bxs,())),by simp only [uh,d0,zG,e1,zE,e2,e3],_,_,rfl⟩
    | inl v3 =>
     have hb:∀ x:yO,zC (ls.length+[x].length) 40=true:=λx=>zT (by simp only [va];omega)
     refine .inl ⟨_,by simp only [uh,d0,zG,e1,zE,e2,e3,hb,w1];rfl,⟨i+1,l3,_,h,?_,rfl⟩,?_⟩
     ·rw [yU,va];omega
     ·simp only;omega
 ·have hi':i=cnt:=by omega
  subst hi'
  exact .inr ⟨.inl (((),(),(),c0,i0,()),((l',()),(nn,nv,(),()),bxs,(bn,bv,bx,(),()),ls,())),by simp only [uh,Int.lt_irrefl,yp,zJ],_,_,rfl⟩
theorem L87_0_ex (l:List UInt8) (N:NmT) (cnt:Nat) (hc:cnt<=255) :
  ∃ r,L87_0 (((),(),(cnt:Int),(0:Int),()),((l,()),N,([]:List Bx),()))=some r /\
   match r with
   | .inl q=>∃ l' ls',q=(((),(),()),((l',()),N,ls',()))
   | .inr q=>∃ e l' ls',q=(((e,()),()),((l',()),N,ls',())):=by
 obtain ⟨nn,nv,⟨⟩,⟨⟩⟩:=N
 have hF:=zK
 unfold L87_0
 refine yE (f:=wn) (λp=>∃ (i:Nat) (l':List UInt8) (ls:List Bx),i<=cnt/\ls.length<=i/\p=(((),(),(cnt:Int),(i:Int),()),((l',()),(nn,nv,(),()),ls,()))) (λp=>cnt-p.1.2.2.2.1.toNat) _ ?_
  ⟨0,l,[],Nat.zero_le _,Nat.le_refl _,rfl⟩ (by simp only;omega)
 rintro p ⟨i,l',ls,hi,hl,rfl⟩
 rcases Nat.lt_or_ge i cnt with h | h
 ·have d0:decide ((i:Int)<(cnt:Int))=true:=zW (by omega)
  have w1:zX ((i:Int)+1)=((i+1:Nat):Int):=by rw [zO (by omega) (by omega)];rfl
  obtain ⟨r0,l0,e0,-⟩:=F88_ex l'
  cases r0 with
  | inr q=>exact .inr ⟨.inr (((q.1,()),()),((l0,()),(nn,nv,(),()),ls,())),by simp only [wn,d0,zG,e0,zE],_,_,_,rfl⟩
  | inl v0 =>
  obtain ⟨r1,l1,e1,-⟩:=sE l0 4 (by omega)
  rw [show ((4:Nat):Int)=4 from rfl] at e1
  cases r1 with
  | inr q=>exact .inr ⟨.inr (((q.1,()),()),((l1,()),(nn,nv,(),()),ls,())),by simp only [wn,d0,zG,e0,e1,zE],_,_,_,rfl⟩
  | inl v1 =>
   obtain ⟨r2,l2,e2,-⟩:=sE l1 4 (by omega)
   rw [show ((4:Nat):Int)=4 from rfl] at e2
   cases r2 with
   | inr q=>exact .inr ⟨.inr (((q.1,()),()),((l2,()),(nn,nv,(),()),ls,())),by simp only [wn,d0,zG,e0,e1,zE,e2],_,_,_,rfl⟩
   | inl v2 =>
    obtain ⟨r3,l3,e3,h3⟩:=sE l2 1 (by omega)
    rw [show ((1:Nat):Int)=1 from rfl] at e3
    cases r3 with
    | inr q=>exact .inr ⟨.inr (((q.1,()),()),((l3,()),(nn,nv,(),()),ls,())),by simp only [wn,d0,zG,e0,e1,zE,e2,e3],_,_,_,rfl⟩
    | inl v3 =>
     obtain ⟨k,rfl,hk⟩:=h3 v3 rfl
     obtain ⟨r4,e4,h4⟩:=L87_1_ex l3 (nn,nv,(),()) ls (v0,v1,v2,(),()) (cnt:Int) (i:Int) k (by omega)
     cases r4 with
     | inr q =>
      obtain ⟨e,l4,rfl⟩:=h4
      exact .inr ⟨.inr (((e,()),()),((l4,()),(nn,nv,(),()),ls,())),by simp only [wn,d0,zG,e0,e1,zE,e2,e3,e4],_,_,_,rfl⟩
     | inl q =>
      obtain ⟨l4,ls4,rfl⟩:=h4
      have hb:∀ x:Bx,zC (ls.length+[x].length) 56=true:=λx=>zT (by simp only [va];omega)
      refine .inl ⟨_,by simp only [wn,d0,zG,e0,e1,zE,e2,e3,e4,hb,w1];rfl,⟨i+1,l4,_,h,?_,rfl⟩,?_⟩
      ·rw [yU,va];omega
      ·simp only;omega
 ·have hi':i=cnt:=by omega
  subst hi'
  exact .inr ⟨.inl (((),(),()),((l',()),(nn,nv,(),()),ls,())),by simp only [wn,Int.lt_irrefl,yp,zJ],_,_,rfl⟩
theorem rdR_ex (l:List UInt8):∃ r,rdR l=some r/\r.2.2.1.1.length<=255:=by
 unfold rdR
 obtain ⟨r0,l0,e0,h0⟩:=F88_ex l
 cases r0 with
 | inr q=>exact ⟨_,by simp only [F87,e0,zE];rfl,Nat.zero_le _⟩
 | inl v0 =>
  have hv:=h0 v0 rfl
  obtain ⟨r1,l1,e1,-⟩:=sE l0 4 (by omega)
  rw [show ((4:Nat):Int)=4 from rfl] at e1
  cases r1 with
  | inr q=>exact ⟨_,by simp only [F87,e0,e1,zE];rfl,Nat.zero_le _⟩
  | inl v1 =>
   obtain ⟨r3,l3,e3,h3⟩:=sE l1 1 (by omega)
   rw [show ((1:Nat):Int)=1 from rfl] at e3
   cases r3 with
   | inr q=>exact ⟨_,by simp only [F87,e0,e1,zE,e3];rfl,hv⟩
   | inl v3 =>
    obtain ⟨k,rfl,hk⟩:=h3 v3 rfl
    obtain ⟨r4,e4,h4⟩:=L87_0_ex l3 (v0,v1,(),()) k (by omega)
    cases r4 with
    | inr q =>
     obtain ⟨e,l4,ls4,rfl⟩:=h4
     exact ⟨_,by simp only [F87,e0,e1,zE,e3,e4];rfl,hv⟩
    | inl q =>
     obtain ⟨l4,ls4,rfl⟩:=h4
     exact ⟨_,by simp only [F87,e0,e1,zE,e3,e4];rfl,hv⟩
theorem rd_ok (l:List UInt8):rdOK l=true/\(vP l).1.length<=255:=by
 obtain ⟨r,h1,h2⟩:=rdR_ex l
 unfold rdOK vP
 rw [h1]
 exact ⟨rfl,h2⟩
theorem F75_ex (l:List UInt8):∃ u e,F75 ((l,()),())=some ((u,e,()),())/\(e=0->Fine u):=by
 obtain ⟨h1,h2⟩:=rd_ok l
 by_cases h3:rdE l=0
 ·obtain ⟨e,h4,h5⟩:=F47_ex ((vP l).1,(vP l).2.1,(vP l).2.2.1,()) (Nat.le_trans h2 (by decide))
  by_cases he:e=0
  ·subst he
   exact ⟨_,0,by simp only [F75,h1,zG,h3,zU,h4,zE,zu,zJ],h5⟩
  ·exact ⟨_,e,by simp only [F75,h1,zG,h3,zU,h4,zE,zz he,yq];rfl,λh=>absurd h he⟩
 ·exact ⟨_,rdE l,by simp only [F75,h1,zG,zz h3,zJ,zE,yq];rfl,λh=>absurd h h3⟩
def OkP {α:Type} (x:Option α) (P:α->Prop):Prop:=∃ a,x=some a/\P a
theorem y9 {α:Type} {a:α} {P:α->Prop} (h:P a):OkP (some a) P:=⟨a,rfl,h⟩
theorem ok_b1 {α β:Type} {x:Option α} {f:α->Option β} {P:β->Prop} {a:α} (h:x=some a) (h2:OkP (f a) P):OkP (x.bind f) P:=by
 subst h;exact h2
theorem ok_b2 {β:Type} {x:Option (Bool×Unit)} {f:Bool×Unit->Option β} {P:β->Prop} (h:∃ b,x=some (b,())) (h2:∀ b,OkP (f (b,())) P):OkP (x.bind f) P:=by
 obtain ⟨b,rfl⟩:=h;exact h2 b
theorem ok_b3 {α β:Type} {x:Option α} {f:α->Option β} {P:β->Prop} (Q:α->Prop) (h:OkP x Q) (h2:∀ a,Q a->OkP (f a) P):OkP (x.bind f) P:=by
 obtain ⟨a,rfl,ha⟩:=h;exact h2 a ha
theorem tZ {α:Type} {c:Bool} {x y:Option α} {P:α->Prop} (h1:OkP x P) (h2:OkP y P):OkP (cond c x y) P:=by
 cases c
 ·exact h2
 ·exact h1
theorem ok_condT {α:Type} {c:Bool} {x y:Option α} {P:α->Prop} (h:c=true) (h1:OkP x P):OkP (cond c x y) P:=by
 subst h;exact h1
theorem ok_condF {α:Type} {c:Bool} {x y:Option α} {P:α->Prop} (h:c=false) (h1:OkP y P):OkP (cond c x y) P:=by
 subst h;exact h1
theorem ok_cond' {α:Type} {c:Bool} {x y:Option α} {P:α->Prop} (h1:c=true->OkP x P) (h2:c=false->OkP y P):OkP (cond c x y) P:=by
 cases c
 ·exact h2 rfl
 ·exact h1 rfl
structure Chk (d:Dd):Prop where
 user:yl d.2.1=true
 box:d.1=2->zl d.2.2.1=true
abbrev Mid:Type:=(Unit×(Unit×Unit)×Bool×Unit)×(Dd×Unit)
def isMid (d:Dd) (a:Mid):Prop:=∃ b,a=(((),((),()),b,()),(d,()))/\(b=false->Chk d)
abbrev Mid27:Type:=((Unit×Unit)×(Dd×Unit))⊕((Int×Unit)×Unit)
def isMid27 (d:Dd) (a:Mid27):Prop:=(∃ e,a=.inr ((e,()),())/\(e=0->Chk d/\d.1≠8))\/(a=.inl (((),()),(d,()))/\Chk d/\d.1=8)
theorem F73_ex (d:Dd) (hu:d.2.1.length<=maxLen):∃ e,F73 ((d,()),())=some (e,())/\(e=0->Chk d/\(d.1=8->∃ u,F75 ((d.2.2.2.2.2.2.2.2.2.1,()),())=some ((u,0,()),())/\u.1=d.2.1/\Fine u)):=by
 obtain ⟨dd,du,db,dt,uid,how,fl,ds,de,by',⟨⟩⟩:=d
 have h28:∀ l:List Int,l.length<=32->F83 ((l,(),()),((dd,du,db,dt,uid,how,fl,ds,de,by',()),()))=some (decide (dd∈l),((dd,du,db,dt,uid,how,fl,ds,de,by',()),())):=λl hl=>F83_eq l _ hl
 suffices h:OkP (F73 (((dd,du,db,dt,uid,how,fl,ds,de,by',()),()),())) λa=>a.2=()/\(a.1=0->Chk (dd,du,db,dt,uid,how,fl,ds,de,by',())/\(dd=8->∃ u,F75 ((by',()),())=some ((u,0,()),())/\u.1=du/\Fine u)) by
  obtain ⟨a,ha,_,h2⟩:=h
  exact ⟨a.1,ha,h2⟩
 unfold F73
 dsimp only
 refine ok_b1 (h28 _ (by decide)) ?_
 dsimp only
 refine ok_b3 (isMid27 (dd,du,db,dt,uid,how,fl,ds,de,by',())) ?_ ?_
 rotate_left
 ·rintro a (⟨e,rfl,he⟩ | ⟨rfl,hC,h8⟩)
  ·exact y9 ⟨rfl,λh=>⟨(he h).1,λh8=>absurd h8 (he h).2⟩⟩
  ·dsimp only
   obtain ⟨u,e,h75,hF⟩:=F75_ex by'
   refine ok_b1 h75 ?_
   dsimp only
   refine ok_cond' (λhc=>y9 ⟨rfl,λh=>by simp at h⟩) λhc=>y9 ⟨rfl,λh=>⟨hC,λ_=>?_⟩⟩
   dsimp only at h
   subst h
   simp only [zU,Bool.true_and,Bool.not_eq_false',xX] at hc
   exact ⟨u,h75,hc,hF rfl⟩
 refine tZ (y9 (.inl ⟨14,rfl,λh=>by simp at h⟩)) ?_
 refine ok_b3 (isMid (dd,du,db,dt,uid,how,fl,ds,de,by',())) ?_ ?_
 ·obtain ⟨b,hb⟩:=F63_some du hu
  refine ok_b1 hb ?_
  dsimp only
  cases b with
  | false=>exact ok_condT rfl (y9 ⟨_,rfl,λh=>by simp at h⟩)
  | true =>
   have hU:=F63_good hb hu
   refine ok_condF rfl ?_
   by_cases h2:dd∈[(2:Int),3,4,5,6,7]
   ·rw [zW h2]
    refine ok_condT rfl ?_
    refine ok_b1 (F64_eq db) ?_
    dsimp only
    cases hB:zl db with
    | false=>exact ok_condT rfl (y9 ⟨_,rfl,λh=>by simp at h⟩)
    | true =>
     have hC:Chk (dd,du,db,dt,uid,how,fl,ds,de,by',()):=⟨hU,λ_=>hB⟩
     repeat' first
      | exact y9 ⟨_,rfl,λ_=>hC⟩
      | (refine ok_b1 (h28 _ (by decide)) ?_;dsimp only)
      | (refine ok_b1 (F64_eq _) ?_;dsimp only)
      | refine tZ ?_ ?_
   ·rw [zz h2]
    have hC:Chk (dd,du,db,dt,uid,how,fl,ds,de,by',()):=⟨hU,λh=>absurd (show dd∈[(2:Int),3,4,5,6,7] by rw [show dd=2 from h];decide) h2⟩
    refine ok_condF rfl ?_
    repeat' first
     | exact y9 ⟨_,rfl,λ_=>hC⟩
     | (refine ok_b1 (h28 _ (by decide)) ?_;dsimp only)
     | (refine ok_b1 (F64_eq _) ?_;dsimp only)
     | refine tZ ?_ ?_
 rintro _ ⟨b,rfl,hC⟩
 dsimp only
 refine ok_cond' (λ_=>y9 (.inl ⟨4,rfl,λh=>by simp at h⟩)) λhb=>?_
 have hC:=hC hb
 refine ok_b3 (isMid (dd,du,db,dt,uid,how,fl,ds,de,by',())) ?_ ?_
 ·repeat' first
   | exact y9 ⟨_,rfl,λ_=>hC⟩
   | (refine ok_b1 (h28 _ (by decide)) ?_;dsimp only)
   | (refine ok_b2 (F85_some _ _ _ _) λb=>?_;dsimp only)
   | refine ok_condT (zW rfl) ?_
   | refine tZ ?_ ?_
 rintro _ ⟨b,rfl,-⟩
 dsimp only
 refine tZ (y9 (.inl ⟨2,rfl,λh=>by simp at h⟩)) ?_
 refine ok_b1 (h28 _ (by decide)) ?_
 dsimp only
 refine tZ (y9 (.inl ⟨6,rfl,λh=>by simp at h⟩)) ?_
 refine ok_b1 (h28 _ (by decide)) ?_
 dsimp only
 refine tZ (y9 (.inl ⟨2,rfl,λh=>by simp at h⟩)) ?_
 refine ok_b1 (h28 _ (by decide)) ?_
 dsimp only
 refine ok_cond' (λh=>y9 (.inl ⟨0,rfl,λ_=>⟨hC,λh8=>?_⟩⟩)) λh=>y9 (.inr ⟨rfl,hC,?_⟩)
 ·rw [show dd=8 from h8] at h
  simp at h
 ·simpa using h
def tot (ls:List Bx):Nat:=(ls.map λb=>b.2.2.2.1.length).sum
def byts (ls:List yO):Nat:=(ls.map λl=>l.2.2.1.length).sum
def bts (ls:List Bx):Nat:=(ls.map λb=>byts b.2.2.2.1).sum
theorem size_from:∀ (ls:List yO) (n:Nat),(∀ l∈ls,l.2.2.1.length<=600)->n+600*ls.length<=1000000 ->
  zd (λ(l:yO) n=>(.inl (zX (n+(l.2.2.1.length:Int))):Int⊕Int)) id (n:Int) ls=((n+byts ls:Nat):Int)
 | [],n,_,_=>by simp [zd,byts]
 | a::t,n,h,hn=>by
  have ha:=h a (List.mem_cons_self ..)
  rw [List.length_cons] at hn
  have w:zX ((n:Int)+((a.2.2.1.length:Nat):Int))=((n+a.2.2.1.length:Nat):Int):=by rw [zO (by omega) (by omega)];rfl
  simp only [zd,w]
  rw [size_from t (n+a.2.2.1.length) (λl hl=>h l (List.mem_cons_of_mem _ hl)) (by omega)]
  simp only [byts,List.map_cons,List.sum_cons]
  omega
theorem byts_le:∀ (ls:List yO),(∀ l∈ls,l.2.2.1.length<=600)->byts ls<=600*ls.length
 | [],_=>by simp [byts]
 | a::t,h=>by
  have ha:=h a (List.mem_cons_self ..)
  have:=byts_le t (λl hl=>h l (List.mem_cons_of_mem _ hl))
  simp only [byts,List.map_cons,List.sum_cons,List.length_cons] at this ⊢
  omega
theorem size_eq {ls:List yO} (h:∀ l∈ls,l.2.2.1.length<=600) (hl:ls.length<=32):size ls=(byts ls:Int):=by
 have:=size_from ls 0 h (by omega)
 rw [Nat.zero_add] at this
 exact this
theorem held_sums:∀ (ls:List Bx) (a b:Nat),(∀ x∈ls,Right (yI x))->a+32*ls.length<=1000000->b+19200*ls.length<=1000000 ->
  ls.foldl ug ((a:Int),(b:Int))=(((a+tot ls:Nat):Int),((b+bts ls:Nat):Int))
 | [],a,b,_,_,_=>by simp [tot,bts]
 | x::t,a,b,h,ha,hb=>by
  have R:=h x (List.mem_cons_self ..)
  have r1:x.2.2.2.1.length<=32:=R.few
  have r2:∀ l∈x.2.2.2.1,l.2.2.1.length<=600:=λl hl=>(R.each l hl).2.2.2
  have r3:=byts_le _ r2
  rw [List.length_cons] at ha hb
  have w1:zX ((a:Int)+((x.2.2.2.1.length:Nat):Int))=((a+x.2.2.2.1.length:Nat):Int):=by rw [zO (by omega) (by omega)];rfl
  have w2:zX ((b:Int)+size x.2.2.2.1)=((b+byts x.2.2.2.1:Nat):Int):=by rw [size_eq r2 r1,zO (by omega) (by omega)];rfl
  rw [List.foldl_cons]
  simp only [ug,w1,w2]
  rw [held_sums t _ _ (λy hy=>h y (List.mem_cons_of_mem _ hy)) (by omega) (by omega)]
  simp only [tot,bts,List.map_cons,List.sum_cons]
  rw [Nat.add_assoc,Nat.add_assoc]
theorem tQ {ls:List Bx} (h:∀ x∈ls,Right (yI x)) (hl:ls.length<=6):wth ls=true<->tot ls<=40/\bts ls<=1200:=by
 have e:=held_sums ls 0 0 h (by omega) (by omega)
 have e':xL ls=((tot ls:Int),(bts ls:Int)):=by
  rw [Nat.zero_add,Nat.zero_add] at e
  exact e
 unfold wth
 rw [held_eq,e']
 simp only [yk,xX]
 omega
theorem inbx_right:zl inbx=true:=by decide +kernel
theorem new_fine {user:Tx} (h:yl user=true):Fine (tc user) where
 good:=new_good user
 user:=h
 names:=λb hb=>by
  simp only [tc,List.mem_singleton] at hb
  subst hb
  exact inbx_right
 inb:=⟨(inbx,(1,(1,([],())))),by simp [tc],rfl⟩
 room:=by
  rw [tQ (new_good user).each (new_good user).few]
  simp [tc,tot,bts,byts]
theorem boxd_fine {u:wg} (G:Fine u) {lo:Nat} (hl:lo<u.2.2.1.length) (d:Dd) (h:(boxd u lo d).2.2.1=0):Fine (boxd u lo d).1/\(boxd u lo d).1.1=u.1:=by
 obtain ⟨g1,K,g3⟩:=boxd_good G.good hl d h
 have hm:=uA hl
 have hw:wth (u.2.2.1.set lo (wi (did (yI (u.2.2.1.getD lo yH)) d).1))=true:=by
  unfold boxd at h
  by_cases h0:(did (yI (u.2.2.1.getD lo yH)) d).2.2=0
  ·rw [if_neg (not_not_intro h0)] at h
   by_cases hw:wth (u.2.2.1.set lo (wi (did (yI (u.2.2.1.getD lo yH)) d).1))=true
   ·exact hw
   ·rw [if_neg hw] at h;exact absurd h (by simp)
  ·rw [if_pos h0] at h
   exact absurd h h0
 rw [g3] at g1 ⊢
 generalize did (yI (u.2.2.1.getD lo yH)) d=r at *
 have hn:(wi r.1).1=(u.2.2.1.getD lo yH).1:=K.name
 refine ⟨{ good:=g1,user:=G.user,names:=λb hb=>?_,inb:=?_,room:=hw },rfl⟩
 ·rcases List.mem_or_eq_of_mem_set hb with h | rfl
  ·exact G.names b h
  ·rw [hn];exact G.names _ hm
 ·obtain ⟨b,hb,hbn⟩:=G.inb
  obtain ⟨i,hi,rfl⟩:=List.getElem_of_mem hb
  by_cases hil:i=lo
  ·subst hil
   refine ⟨wi r.1,List.mem_set hl _,?_⟩
   rw [hn,xk,List.getElem?_eq_getElem hi]
   exact hbn
  ·refine ⟨u.2.2.1[i],?_,hbn⟩
   have:(u.2.2.1.set lo (wi r.1))[i]'(by rw [List.length_set];exact hi)=u.2.2.1[i]:=List.getElem_set_ne (by omega) _
   rw [<- this]
   exact List.getElem_mem _
theorem tot_app (a b:List Bx):tot (a++b)=tot a+tot b:=by simp [tot]
theorem bts_app (a b:List Bx):bts (a++b)=bts a+bts b:=by simp [bts]
theorem tot_cons (a:Bx) (b:List Bx):tot (a::b)=a.2.2.2.1.length+tot b:=by simp [tot]
theorem bts_cons (a:Bx) (b:List Bx):bts (a::b)=byts a.2.2.2.1+bts b:=by simp [bts]
theorem make_fine {u:wg} (G:Fine u) {lo:Nat} (d:Dd) (h2:d.1=2) (hlo:lo<=u.2.2.1.length) (h3:∀ k,k<lo->(u.2.2.1.getD k yH).1<d.2.2.1) (h4:∀ k,lo<=k->k<u.2.2.1.length->¬ (u.2.2.1.getD k yH).1<d.2.2.1)
  (h6:yr u.2.2.1 d.2.2.1=false->∀ k,k<u.2.2.1.length->(u.2.2.1.getD k yH).1≠d.2.2.1) (hB:zl d.2.2.1=true) (h:(xz u lo d).2.2.1=0):Fine (xz u lo d).1/\(xz u lo d).1.1=u.1:=by
 obtain ⟨g1,g2,g3⟩:=make_good G.good d h2 hlo h3 h4 h6 h
 rw [g3] at g1 ⊢
 have hr:=(tQ G.good.each G.good.few).1 G.room
 have e:u.2.2.1.take lo++u.2.2.1.drop lo=u.2.2.1:=List.take_append_drop lo _
 have e1:tot (u.2.2.1.take lo)+tot (u.2.2.1.drop lo)=tot u.2.2.1:=by rw [<- tot_app,e]
 have e2:bts (u.2.2.1.take lo)+bts (u.2.2.1.drop lo)=bts u.2.2.1:=by rw [<- bts_app,e]
 refine ⟨{ good:=g1,user:=G.user,names:=λb hb=>?_,inb:=?_,room:=?_ },rfl⟩
 ·rcases List.mem_append.1 hb with hb | hb
  ·rcases List.mem_append.1 hb with hb | hb
   ·exact G.names b (List.mem_of_mem_take hb)
   ·rw [List.mem_singleton.1 hb];exact hB
  ·exact G.names b (List.mem_of_mem_drop hb)
 ·obtain ⟨b,hb,hbn⟩:=G.inb
  refine ⟨b,?_,hbn⟩
  rw [<- e] at hb
  rcases List.mem_append.1 hb with hb | hb
  ·exact List.mem_append_left _ (List.mem_append_left _ hb)
  ·exact List.mem_append_right _ hb
 ·rw [tQ g1.each g1.few]
  simp only [tot_app,bts_app]
  have z1:tot [((d.2.2.1,(u.2.1+1,(1,([],())))):Bx)]=0:=rfl
  have z2:bts [((d.2.2.1,(u.2.1+1,(1,([],())))):Bx)]=0:=rfl
  omega
theorem drop_fine {u:wg} (G:Fine u) {lo:Nat} (d:Dd) (h2:d.1≠2) (h5:yr u.2.2.1 d.2.2.1=true->lo<u.2.2.1.length/\(u.2.2.1.getD lo yH).1=d.2.2.1) (h:(xz u lo d).2.2.1=0) :
  Fine (xz u lo d).1/\(xz u lo d).1.1=u.1:=by
 obtain ⟨g1,g2⟩:=drop_good G.good d h2 h
 have hq:yr u.2.2.1 d.2.2.1=true/\d.2.2.1≠inbx:=by
  unfold xz at h
  rw [if_neg h2] at h
  cases hh:yr u.2.2.1 d.2.2.1 with
  | false=>rw [hh,if_pos rfl] at h;exact absurd h (by simp)
  | true =>
   rw [hh,if_neg (by simp)] at h
   by_cases hc:d.2.2.1=inbx
   ·rw [if_pos hc] at h;exact absurd h (by simp)
   ·exact ⟨rfl,hc⟩
 obtain ⟨k1,k2⟩:=h5 hq.1
 rw [g2] at g1 ⊢
 have hr:=(tQ G.good.each G.good.few).1 G.room
 have hs:=del_sub u.2.2.1 lo
 have e:u.2.2.1.take lo++(u.2.2.1[lo]::u.2.2.1.drop (lo+1))=u.2.2.1:=by
  rw [<- List.drop_eq_getElem_cons k1]
  exact List.take_append_drop lo _
 have e1:tot (u.2.2.1.take lo)+(u.2.2.1[lo].2.2.2.1.length+tot (u.2.2.1.drop (lo+1)))=tot u.2.2.1:=by
  conv=>rhs;rw [<- e]
  rw [tot_app,tot_cons]
 have e2:bts (u.2.2.1.take lo)+(byts u.2.2.1[lo].2.2.2.1+bts (u.2.2.1.drop (lo+1)))=bts u.2.2.1:=by
  conv=>rhs;rw [<- e]
  rw [bts_app,bts_cons]
 refine ⟨{ good:=g1,user:=G.user,names:=λb hb=>G.names b (hs.mem hb),inb:=?_,room:=?_ },rfl⟩
 ·obtain ⟨b,hb,hbn⟩:=G.inb
  refine ⟨b,?_,hbn⟩
  rw [<- e] at hb
  rcases List.mem_append.1 hb with hb | hb
  ·exact List.mem_append_left _ hb
  ·rcases List.mem_cons.1 hb with rfl | hb
   ·exfalso
    rw [xk,List.getElem?_eq_getElem k1] at k2
    exact hq.2 (k2.symm.trans hbn)
   ·exact List.mem_append_right _ hb
 ·rw [tQ g1.each g1.few]
  simp only [tot_app,bts_app]
  omega
def pfx (s p:Tx):Bool:=decide (p.length<=s.length)&&decide (s.take p.length=p)
theorem F127_eq (s p:Tx):F127 ((s,p,()),())=some (pfx s p,()):=by
 have e:decide (((p.length:Nat):Int)<=((s.length:Nat):Int))=decide (p.length<=s.length):=by rw [decide_eq_decide];omega
 have c1:decide ((0:Int)<=((p.length:Nat):Int))=true:=zW (by omega)
 unfold pfx
 simp only [F127,e,c1,Bool.true_and,zr]
 cases decide (p.length<=s.length) <;> simp
def vw (nm frm:Tx):Bool:=decide (nm=frm)||pfx nm (frm++[47])
def wo (nm frm tt:Tx):Tx:=if vw nm frm=true then tt++nm.drop frm.length else nm
theorem pfx_le {s p:Tx} (h:pfx s p=true):p.length<=s.length:=by
 unfold pfx at h
 simp only [yk,xX] at h
 exact h.1
theorem F94_eq (nm frm tt:Tx) (h1:nm.length<=1100000) (h2:frm.length<=1100000) (h3:tt.length<=1100000):F94 ((nm,frm,tt,()),())=some ((wo nm frm tt,vw nm frm,()),()):=by
 have f1:fits (frm.length+([47]:List UInt8).length)=true:=zW (by simp<;>omega)
 have e135:F116 ((nm,frm++[47],()),())=some (pfx nm (frm++[47]),()):=by simp only [F116,F127_eq,zE]
 have c1:decide ((0:Int)<=((frm.length:Nat):Int))=true:=zW (by omega)
 have f2:fits (tt.length+(nm.drop frm.length).length)=true:=zW (by rw [tB];omega)
 have t1:(nm.drop frm.length).take (nm.length-frm.length)=nm.drop frm.length:=List.take_of_length_le (by rw [tB];omega)
 unfold wo vw
 by_cases he:nm=frm
 ·subst he
  simp only [F94,f1,Bool.true_or,zG,zU,zu,zJ,c1,Int.le_refl,z8,zr,t1,f2,↓reduceIte]
 ·cases hp:pfx nm (frm++[47]) with
  | false =>
   simp only [F94,f1,Bool.true_or,zG,zz he,yq,e135,zE,hp,zJ,Bool.or_self,Bool.false_eq_true,↓reduceIte]
  | true =>
   have hl:=pfx_le hp
   rw [yU] at hl
   have c2:decide (((frm.length:Nat):Int)<=((nm.length:Nat):Int))=true:=zW (by omega)
   simp only [F94,f1,Bool.true_or,zG,zz he,yq,e135,zE,hp,c1,c2,Int.le_refl,zU,z8,zr,t1,f2,Bool.or_true,↓reduceIte]
def ren (frm tt:Tx) (b:Bx):Bx:=(wo b.1 frm tt,(b.2.1,(b.2.2.1,(b.2.2.2.1,()))))
abbrev R77:Type:=((Unit×Unit×Int×Unit)×((Tx×Int×Unit×Unit)×((Unit×Unit×Unit×Unit)×(List Bx×(List Bx×Unit)))))⊕((Unit×Unit×Unit×Unit)×((Tx×Int×Unit×Unit)×(List Bx×Unit)))
theorem L77_0_ex (un:Tx) (uv:Int) (d:Dd) (ls xs:List Bx) (hl:ls.length<=6) (hn:∀ b∈ls,zl b.1=true) (h2:d.2.2.1.length<=1100000) (h3:d.2.2.2.1.length<=1100000) :
  ∃ r:R77,L77_0 (((),(),(),(0:Int),(),((ls.length:Nat):Int),(0:Int),()),((un,uv,(),()),d,((),(),(),()),ls,xs,()))=some r /\
   match r with
   | .inl q=>∃ n,q=(((),(),n,()),((un,uv,(),()),((),(),(),()),ls.map (ren d.2.2.1 d.2.2.2.1),xs,()))/\∀ b∈ls,zl (wo b.1 d.2.2.1 d.2.2.2.1)=true
   | .inr q=>∃ cur,q=(((),(),(),()),((un,uv,(),()),cur,())):=by
 obtain ⟨dd,du,db,dt,uid,how,fl,ds,de,by',⟨⟩⟩:=d
 simp only at h2 h3 ⊢
 have hF:=zK
 unfold L77_0
 refine yE (f:=ui) (λp=>∃ (i:Nat) (n:Int),i<=ls.length/\(∀ k,k<i->zl (wo (ls.getD k yH).1 db dt)=true) /\
   p=(((),(),(),n,(),((ls.length:Nat):Int),(i:Int),()),((un,uv,(),()),(dd,du,db,dt,uid,how,fl,ds,de,by',()),((),(),(),()),(ls.take i).map (ren db dt)++ls.drop i,xs,())))
  (λp=>ls.length-p.1.2.2.2.2.2.2.1.toNat) _ ?_ ⟨0,0,Nat.zero_le _,λk hk=>absurd hk (Nat.not_lt_zero _),by simp⟩ (by simp only;omega)
 rintro p ⟨i,n,hi,hk,rfl⟩
 rcases Nat.lt_or_ge i ls.length with h | h
 ·have d0:decide ((i:Int)<((ls.length:Nat):Int))=true:=zW (by omega)
  have d1:decide ((0:Int)<=(i:Int))=true:=zW (by omega)
  have w1:zX ((i:Int)+1)=((i+1:Nat):Int):=by rw [zO (by omega) (by omega)];rfl
  have hlen:((ls.take i).map (ren db dt)++ls.drop i).length=ls.length:=by simp;omega
  have hti:((ls.take i).map (ren db dt)).length=i:=by simp;omega
  obtain ⟨⟨bn,bv,bx,bl,⟨⟩⟩,hb⟩:∃ b,ls[i]=b:=⟨_,rfl⟩
  have hcur:(ls.take i).map (ren db dt)++ls.drop i=(ls.take i).map (ren db dt)++((bn,(bv,(bx,(bl,()))))::ls.drop (i+1)):=by
   rw [List.drop_eq_getElem_cons h,hb]
  have hg:((ls.take i).map (ren db dt)++ls.drop i).getD i (([]:List UInt8),((0:Int),((0:Int),(([]:(List yO)),()))))=(bn,(bv,(bx,(bl,())))):=by
   rw [hcur,xk,List.getElem?_append_right (by omega),hti,Nat.sub_self]
   rfl
  have hset:∀ x:Bx,((ls.take i).map (ren db dt)++ls.drop i).set i x=(ls.take i).map (ren db dt)++(x::ls.drop (i+1)):=λx=>by
   rw [hcur]
   have:=tz ((ls.take i).map (ren db dt)) (ls.drop (i+1)) (bn,(bv,(bx,(bl,())))) x
   rw [hti] at this
   exact this
  have hnext:(ls.take i).map (ren db dt)++((wo bn db dt,(bv,(bx,(bl,()))))::ls.drop (i+1))=(ls.take (i+1)).map (ren db dt)++ls.drop (i+1):=by
   rw [List.take_succ_eq_append_getElem h,List.map_append,List.map_cons,hb]
   simp [ren]
  have hbn:bn.length<=24:=by
   have:=w7 (hn ls[i] (List.getElem_mem h))
   rw [hb] at this
   exact this
  have e102:=F94_eq bn db dt (by omega) h2 h3
  have e70:=F64_eq (wo bn db dt)
  generalize hC:(ls.take i).map (ren db dt)++ls.drop i=C at hlen hg hset
  cases hr:zl (wo bn db dt) with
  | false =>
   rw [hr] at e70
   right
   refine ⟨.inr (((),(),(),()),((un,uv,(),()),C,())),?_,_,rfl⟩
   cases hm:vw bn db with
   | false =>
    rw [hm] at e102
    simp only [ui,d0,d1,hlen,z8,zG,zJ,zr,zE,hg,e102,e70,yq]
   | true =>
    rw [hm] at e102
    simp only [ui,d0,d1,hlen,z8,zG,zr,zE,hg,e102,e70,yq]
  | true =>
   rw [hr] at e70
   left
   have hgood:∀ k,k<i+1->zl (wo (ls.getD k yH).1 db dt)=true:=λk hk'=>by
    rcases Nat.lt_or_ge k i with h' | h'
    ·exact hk k h'
    ·obtain rfl:k=i:=by omega
     rw [xk,List.getElem?_eq_getElem h,hb]
     exact hr
   cases hm:vw bn db with
   | false =>
    rw [hm] at e102
    refine ⟨_,by simp only [ui,d0,d1,hlen,z8,zG,zJ,zr,zE,hg,e102,e70,zu,hset,hnext,w1];rfl,⟨i+1,_,h,hgood,rfl⟩,?_⟩
    simp only;omega
   | true =>
    rw [hm] at e102
    refine ⟨_,by simp only [ui,d0,d1,hlen,z8,zG,zJ,zr,zE,hg,e102,e70,zu,hset,hnext,w1];rfl,⟨i+1,_,h,hgood,rfl⟩,?_⟩
    simp only;omega
 ·have hi':i=ls.length:=by omega
  subst hi'
  right
  refine ⟨.inl (((),(),n,()),((un,uv,(),()),((),(),(),()),ls.map (ren db dt),xs,())),?_,n,rfl,λb hb=>?_⟩
  ·simp only [ui,Int.lt_irrefl,yp,zJ,List.take_length,List.drop_length,List.append_nil]
  ·obtain ⟨k,hk',rfl⟩:=List.getElem_of_mem hb
   have:=hk k hk'
   rw [xk,List.getElem?_eq_getElem hk'] at this
   exact this
theorem L77_1_ex (un:Tx) (uv n:Int) (ls xs:List Bx) (h1:1<=ls.length) (hl:ls.length<=6) :
  ∃ r:R77,L77_1 (((),(),n,((ls.length-1:Nat):Int),(0:Int),()),((un,uv,(),()),((),(),(),()),ls,xs,()))=some r /\
   match r with
   | .inl q=>q=(((),(),n,()),((un,uv,(),()),((),(),(),()),ls,xs,()))/\∀ k,k+1<ls.length->(ls.getD k yH).1≠(ls.getD (k+1) yH).1
   | .inr q=>q=(((),(),(),()),((un,uv,(),()),ls,())):=by
 have hF:=zK
 unfold L77_1
 refine yE (f:=B77_1) (λp=>∃ (i:Nat),i<=ls.length-1/\(∀ k,k<i->(ls.getD k yH).1≠(ls.getD (k+1) yH).1) /\
   p=(((),(),n,((ls.length-1:Nat):Int),(i:Int),()),((un,uv,(),()),((),(),(),()),ls,xs,())))
  (λp=>ls.length-p.1.2.2.2.2.1.toNat) _ ?_ ⟨0,Nat.zero_le _,λk hk=>absurd hk (Nat.not_lt_zero _),rfl⟩ (by simp only;omega)
 rintro p ⟨i,hi,hk,rfl⟩
 rcases Nat.lt_or_ge i (ls.length-1) with h | h
 ·have d0:decide ((i:Int)<((ls.length-1:Nat):Int))=true:=zW (by omega)
  have d1:decide ((0:Int)<=(i:Int))=true:=zW (by omega)
  have d2:decide ((i:Int)<((ls.length:Nat):Int))=true:=zW (by omega)
  have w1:zX ((i:Int)+1)=((i+1:Nat):Int):=by rw [zO (by omega) (by omega)];rfl
  have d3:decide ((0:Int)<=((i+1:Nat):Int))=true:=zW (by omega)
  have d4:decide (((i+1:Nat):Int)<((ls.length:Nat):Int))=true:=zW (by omega)
  by_cases he:(ls.getD i yH).1=(ls.getD (i+1) yH).1
  ·right
   refine ⟨.inr (((),(),(),()),((un,uv,(),()),ls,())),?_,rfl⟩
   simp only [B77_1,d0,d1,d2,w1,d3,d4,z8,zG,zr,he,zU]
  ·left
   refine ⟨_,by simp only [B77_1,d0,d1,d2,w1,d3,d4,z8,zG,zr,he,yp,zJ],⟨i+1,h,λk hk'=>?_,rfl⟩,?_⟩
   ·rcases Nat.lt_or_ge k i with h' | h'
    ·exact hk k h'
    ·obtain rfl:k=i:=by omega
     exact he
   ·simp only;omega
 ·have hi':i=ls.length-1:=by omega
  subst hi'
  right
  refine ⟨.inl (((),(),n,()),((un,uv,(),()),((),(),(),()),ls,xs,())),?_,rfl,λk hk'=>hk k (by omega)⟩
  simp only [B77_1,Int.lt_irrefl,yp,zJ]
theorem inbx_stays {frm:Tx} (tt:Tx) (h:frm≠inbx):wo inbx frm tt=inbx:=by
 have hp:pfx inbx (frm++[47])=false:=by
  cases hp:pfx inbx (frm++[47]) with
  | false=>rfl
  | true =>
   exfalso
   unfold pfx at hp
   simp only [yk,xX] at hp
   have:(47:UInt8)∈inbx:=by
    refine List.mem_of_mem_take (i:=(frm++[47]).length) ?_
    rw [hp.2]
    simp
   exact absurd this (by decide)
 unfold wo vw
 rw [hp,zz (λh'=>h h'.symm)]
 rfl
theorem sum_perm {a b:List Bx} (h:a.Perm b):tot a=tot b/\bts a=bts b:=⟨(h.map _).sum_nat,(h.map _).sum_nat⟩
theorem ren_sums (f t:Tx) (ls:List Bx):tot (ls.map (ren f t))=tot ls/\bts (ls.map (ren f t))=bts ls:=by
 unfold tot bts
 rw [List.map_map,List.map_map]
 exact ⟨rfl,rfl⟩
theorem F77_ex {u:wg} (G:Fine u) (d:Dd) (h3:d.2.2.2.1.length<=1100000):∃ R:wg×Int×Int×Unit,F77 ((u,d,()),())=some (R,())/\(R.2.2.1=0->Fine R.1/\R.1.1=u.1):=by
  obtain ⟨un,uv,ls,⟨⟩⟩:=u
  obtain ⟨lo,e39,_,_,_,h5,_⟩:=F91_eq (un,uv,ls,()) d.2.2.1 (Nat.le_trans G.good.few (by omega)) G.good.rise
  obtain ⟨dd,du,db,dt,uid,how,fl,ds,de,by',⟨⟩⟩:=d
  have g1:=G.good.few
  have g3:=G.good.each
  have g4:=G.good.below
  have g5:=G.names
  have g6:=G.inb
  have g7:=G.room
  simp only at h3 e39 h5 g1 g3 g4 g5 g6 g7
  cases hh:yr ls db with
  | false =>
    rw [hh] at e39
    exact ⟨((un,uv,ls,()),0,9,()),by simp only [F77,e39,zE,yq,zG],λh=>by simp at h⟩
  | true =>
    rw [hh] at e39
    obtain ⟨k1,k2⟩:=h5 hh
    by_cases hin:db=inbx
    . refine ⟨((un,uv,ls,()),0,13,()),?_,λh=>by simp at h⟩
      have:decide (db=([73,78,66,79,88]:List UInt8))=true:=zW hin
      simp only [F77,e39,zE,zu,zJ,this,zG]
    . have hdi:decide (db=([73,78,66,79,88]:List UInt8))=false:=zz hin
      have e30:=F32_eq ls (by omega)
      have hdb:db.length<=24:=by
        have:=w7 (g5 _ (uA k1))
        rw [k2] at this
        exact this
      obtain ⟨r,e0,hr⟩:=L77_0_ex un uv (dd,du,db,dt,uid,how,fl,ds,de,by',()) ls [] g1 g5 (by simp only;omega) h3
      cases r with
      | inr q =>
        obtain ⟨cur,rfl⟩:=hr
        exact ⟨((un,uv,cur,()),0,6,()),by simp only [F77,e39,zE,zu,zJ,hdi,e30,e0],λh=>by simp at h⟩
      | inl q =>
        obtain ⟨n,rfl,hnm⟩:=hr
        simp only at hnm
        have hp:(srtB (ls.map (ren db dt))).Perm (ls.map (ren db dt)):=srtBy_perm _ _ _
        have hs:(srtB (ls.map (ren db dt))).Pairwise λa b=>¬ b.1<a.1:=srtBy_sorted _ _ _
        have hlen:(srtB (ls.map (ren db dt))).length=ls.length:=by rw [hp.length_eq,List.length_map]
        have hok:srtBOK (ls.map (ren db dt))=true:=by
          unfold srtBOK
          simp only [List.length_map,yk,xX,Bool.not_eq_true',List.isEmpty_eq_false_iff]
          refine ⟨by omega,λh=>?_⟩
          have:=congrArg List.length h
          rw [List.length_map,List.length_nil] at this
          omega
        obtain ⟨S,hS⟩:∃ S,srtB (ls.map (ren db dt))=S:=⟨_,rfl⟩
        rw [hS] at hp hs hlen
        obtain ⟨r,e1,hr⟩:=L77_1_ex un uv n S [] (by omega) (by omega)
        have c1:decide ((1:Int)<=((S.length:Nat):Int))=true:=zW (by omega)
        cases r with
        | inr q =>
          obtain rfl:=hr
          exact ⟨((un,uv,S,()),0,10,()),by simp only [F77,e39,zE,zu,zJ,hdi,e30,e0,hok,zG,hS,c1,Int.le_refl,zU,z8,zr,e1],λh=>by simp at h⟩
        | inl q =>
          obtain ⟨rfl,hd⟩:=hr
          refine ⟨((un,uv,S,()),n,0,()),by simp only [F77,e39,zE,zu,zJ,hdi,e30,e0,hok,zG,hS,c1,Int.le_refl,zU,z8,zr,e1],λ_=>⟨?_,rfl⟩⟩
          have hmem:∀ b∈S,∃ a∈ls,ren db dt a=b:=λb hb=>List.mem_map.1 (hp.mem_iff.1 hb)
          have hrise:S.Pairwise λa b=>a.1<b.1:=rise_of λk hk=>by
            have h1:=List.pairwise_iff_getElem.1 hs k (k+1) (by omega) hk (by omega)
            have h2:=hd k hk
            rw [xk,xk,List.getElem?_eq_getElem (show k<S.length by omega),List.getElem?_eq_getElem hk] at h2 ⊢
            exact wK h1 λe=>h2 e.symm
          have heach:∀ b∈S,Right (yI b):=λb hb=>by
            obtain ⟨a,ha,rfl⟩:=hmem b hb
            have R:=g3 a ha
            exact ⟨R.valid,R.next,R.few,R.each,R.rise⟩
          have hfew:S.length<=6:=by omega
          have hsum:=sum_perm hp
          have hsum2:=ren_sums db dt ls
          have hroom:=(tQ g3 g1).1 g7
          exact {
            good:=⟨hfew,hrise,heach,G.good.valid,λb hb=>by
              obtain ⟨a,ha,rfl⟩:=hmem b hb
              exact g4 a ha⟩
            user:=G.user
            names:=λb hb=>by
              obtain ⟨a,ha,rfl⟩:=hmem b hb
              exact hnm a ha
            inb:=by
              obtain ⟨b,hb,hbn⟩:=g6
              refine ⟨ren db dt b,hp.mem_iff.2 (List.mem_map_of_mem hb),?_⟩
              unfold ren
              rw [hbn]
              exact inbx_stays dt hin
            room:=by
              show wth S=true
              rw [tQ heach hfew]
              omega }
structure FineM (m:Mp):Prop where
 nodup:(m.map (·.1)).Nodup
 few:m.length<=16
 fine:∀ (k:Tx) u,zF .str m k=some u->Fine (usr u)/\u.1=k
theorem FineM.nil:FineM []:=⟨List.nodup_nil,Nat.zero_le _,λk u h=>by cases h⟩
theorem FineM.set {m:Mp} (G:FineM m) {k:Tx} {u:wg} (hl:(zZ .str m k (u.1,(u.2.1,(u.2.2.1,())))).length<=16) (hu:Fine u) (hk:u.1=k):FineM (zZ .str m k (u.1,(u.2.1,(u.2.2.1,())))) where
 nodup:=tA KE_str G.nodup
 few:=hl
 fine:=λk' u' h=>by
  rw [vz KE_str G.nodup] at h
  cases hq:yh .str k' k with
  | true =>
   rw [hq,zG,xQ] at h
   subst h
   have:k'=k:=(KE_str k' k).1 hq
   exact ⟨hu,hk.trans this.symm⟩
  | false =>
   rw [hq,zJ] at h
   exact G.fine k' u' h
theorem FineM.del {m:Mp} (G:FineM m) (k:Tx):FineM (yd .str m k) where
 nodup:=mapDel_nd (t:=.str) G.nodup
 few:=Nat.le_trans (mapDel_sub (t:=.str) m k).length_le G.few
 fine:=λk' u' h=>by
  rw [mapGet_del KE_str G.nodup] at h
  cases hq:yh .str k' k with
  | true=>rw [hq,zG] at h;cases h
  | false =>
   rw [hq,zJ] at h
   exact G.fine k' u' h
theorem come_fine {m:Mp} (G:FineM m) {u:wg} (hu:Fine u):FineM (come m u).2:=by
 unfold come
 split
 ·exact G
 ·rename_i h1
  split
  ·exact G
  ·rename_i h2
   refine G.set ?_ hu rfl
   rw [vy KE_str]
   have:=G.few
   cases (zF .str m u.1).isSome
   ·simp only [zJ];omega
   ·simp only [zG];omega
theorem kept_fine {m:Mp} (G:FineM m) {user:Tx} {u:Tx×(Int×(List Bx×Unit))} (hm:zF .str m user=some u) (r:wg×Int×Int×Unit) (h:r.2.2.1=0->Fine r.1/\r.1.1=user):FineM (kept m user r).2:=by
 unfold kept
 simp only
 split
 ·rename_i h0
  refine G.set ?_ (h h0).1 (h h0).2
  rw [vy KE_str,hm]
  exact G.few
 ·exact G
theorem F62_enter (m:Mp) (d:Dd) (u:wg) (hc:F73 ((d,()),())=some (0,())) (h8:d.1=8) (h75:F75 ((d.2.2.2.2.2.2.2.2.2.1,()),())=some ((u,0,()),())) :
  F62 ((true,d,()),(((),()),m,()))=some ((0,(come m u).1,()),(((),()),(come m u).2,())):=by
 obtain ⟨dd,du,db,dt,uid,how,fl,ds,de,by',⟨⟩⟩:=d
 obtain ⟨un,uv,ls,⟨⟩⟩:=u
 simp only at h8 h75
 subst h8
 have e74:=F74_eq m (un,uv,ls,())
 simp only [F62,hc,zE,zU,zu,zJ,zG,zR,show decide ((8:Int)=1)=false from rfl,h75,e74]
theorem sG (m:Mp) (d:Dd) (u:Tx×(Int×(List Bx×Unit))) (R:wg×Int×Int×Unit) (hc:F73 ((d,()),())=some (0,())) (h7:d.1=7) (hm:zF .str m d.2.1=some u)
  (h77:F77 ((usr u,d,()),())=some (R,())) :
  F62 ((true,d,()),(((),()),m,()))=some ((kept m d.2.1 R).1,(((),()),(kept m d.2.1 R).2,())):=by
 obtain ⟨dd,du,db,dt,uid,how,fl,ds,de,by',⟨⟩⟩:=d
 obtain ⟨un,uv,ls,⟨⟩⟩:=u
 obtain ⟨⟨ru,rv,rl,⟨⟩⟩,rn,re,⟨⟩⟩:=R
 simp only at h7 hm
 subst h7
 unfold usr at h77
 simp only at h77
 simp only [F62,hc,zE,zU,zu,zJ,zG,zR,hm,show decide ((7:Int)=1)=false from rfl,show decide ((7:Int)=8)=false from rfl,show decide ((7:Int)=2)=false from rfl,show decide ((7:Int)=3)=false from rfl,Option.isSome_some,Option.getD_some,h77,kept]
 by_cases hr:re=0
 ·simp [hr]
 ·simp [hr]
theorem F62_leave (m:Mp) (d:Dd) (u:Tx×(Int×(List Bx×Unit))) (hc:F73 ((d,()),())=some (0,())) (h9:d.1=9) (hm:zF .str m d.2.1=some u) :
  F62 ((true,d,()),(((),()),m,()))=some ((0,0,()),(((),()),yd .str m d.2.1,())):=by
 obtain ⟨dd,du,db,dt,uid,how,fl,ds,de,by',⟨⟩⟩:=d
 obtain ⟨un,uv,ls,⟨⟩⟩:=u
 simp only at h9 hm
 subst h9
 simp only [F62,hc,zE,zU,zu,zJ,zG,zR,hm,show decide ((9:Int)=1)=false from rfl,show decide ((9:Int)=8)=false from rfl,show decide ((9:Int)=2)=false from rfl,show decide ((9:Int)=3)=false from rfl,show decide ((9:Int)=7)=false from rfl,Option.isSome_some,Option.getD_some]
theorem F62_fine {m:Mp} (G:FineM m) (d:Dd) (hu:d.2.1.length<=1100000) (ht:d.2.2.2.1.length<=1100000) :
  ∃ n e m',F62 ((true,d,()),(((),()),m,()))=some ((n,e,()),(((),()),m',()))/\FineM m':=by
 obtain ⟨e0,hc,hC⟩:=F73_ex d (Nat.le_trans hu (by decide))
 by_cases he0:e0=0
 ·subst he0
  obtain ⟨C,hE⟩:=hC rfl
  by_cases h1:d.1=1
  ·exact ⟨_,_,_,F62_open m d hc h1,come_fine G (new_fine C.user)⟩
  ·by_cases h8:d.1=8
   ·obtain ⟨u,h75,_,hF⟩:=hE h8
    exact ⟨_,_,_,F62_enter m d u hc h8 h75,come_fine G hF⟩
   ·cases hm:zF .str m d.2.1 with
    | none=>exact ⟨_,_,_,F62_gone m d hc h1 h8 hm,G⟩
    | some u =>
     obtain ⟨Fu,hk⟩:=G.fine d.2.1 u hm
     have Gu:Good u:=Fu.good
     by_cases h23:d.1=2\/d.1=3
     ·obtain ⟨lo,e1,e2,e3,e4,e5,e6⟩:=F76_eq u d (Nat.le_trans Gu.few (by decide)) Gu.rise
      refine ⟨_,_,_,F62_shape m d u lo hc h23 hm e1,kept_fine G hm _ λhe=>?_⟩
      by_cases h2:d.1=2
      ·obtain ⟨q1,q2⟩:=make_fine Fu d h2 e2 e3 e4 e6 (C.box h2) he
       exact ⟨q1,q2.trans hk⟩
      ·obtain ⟨q1,q2⟩:=drop_fine Fu d h2 e5 he
       exact ⟨q1,q2.trans hk⟩
     ·rw [not_or] at h23
      by_cases h7:d.1=7
      ·obtain ⟨R,e1,e2⟩:=F77_ex Fu d ht
       refine ⟨_,_,_,sG m d u R hc h7 hm e1,kept_fine G hm _ λhe=>?_⟩
       obtain ⟨q1,q2⟩:=e2 he
       exact ⟨q1,q2.trans hk⟩
      ·by_cases h9:d.1=9
       ·exact ⟨_,_,_,F62_leave m d u hc h9 hm,G.del _⟩
       ·rcases F78_eq u d (Nat.le_trans Gu.few (by decide)) Gu.len Gu.rise with ⟨_,e1⟩ | ⟨lo,l1,l2,e1⟩
        ·exact ⟨_,_,_,F62_box m d u _ hc h1 h23.1 h23.2 h7 h8 h9 hm e1,kept_fine G hm _ λh=>absurd h (by simp)⟩
        ·refine ⟨_,_,_,F62_box m d u _ hc h1 h23.1 h23.2 h7 h8 h9 hm e1,kept_fine G hm _ λhe=>?_⟩
         obtain ⟨q1,q2⟩:=boxd_fine Fu l1 d he
         exact ⟨q1,q2.trans hk⟩
 ·exact ⟨0,e0,m,F62_bad m d e0 hc he0,G⟩
abbrev Small (d:Dd):Prop:=d.2.1.length<=1100000/\d.2.2.2.1.length<=1100000
abbrev R27:Type:=((Bool×Unit×Unit)×((Unit×Unit)×Mp×(List Int)×Unit))⊕((Bool×Unit×Int×Int×Unit)×((Unit×Unit)×Mp×(List Int)×Unit))
theorem L45_ex {m:Mp} (G:FineM m) (l:List Dd) (hs:∀ d∈l,Small d) (hl:l.length<=12) :
  ∃ r:R27,L45_0 ((true,(),l,((l.length:Nat):Int),(0:Int),()),(((),()),m,([]:List Int),()))=some r /\
   match r with
   | .inl q=>∃ m' o,q=((true,(),()),(((),()),m',o,()))/\FineM m'
   | .inr q=>∃ i e m' o,q=((true,(),i,e,()),(((),()),m',o,()))/\FineM m':=by
 have hF:=zK
 unfold L45_0
 refine yE (f:=wb) (λp=>∃ (i:Nat) (m':Mp) (o:List Int),i<=l.length/\o.length<=i/\FineM m'/\p=((true,(),l,((l.length:Nat):Int),(i:Int),()),(((),()),m',o,()))) (λp=>l.length-p.1.2.2.2.2.1.toNat) _ ?_
  ⟨0,m,[],Nat.zero_le _,Nat.le_refl _,G,rfl⟩ (by simp only;omega)
 rintro p ⟨i,m',o,hi,ho,G',rfl⟩
 rcases Nat.lt_or_ge i l.length with h | h
 ·have d0:decide ((i:Int)<((l.length:Nat):Int))=true:=zW (by omega)
  have d1:decide ((0:Int)<=(i:Int))=true:=zW (by omega)
  have w1:zX ((i:Int)+1)=((i+1:Nat):Int):=by rw [zO (by omega) (by omega)];rfl
  obtain ⟨d,hd⟩:∃ d,l[i]=d:=⟨_,rfl⟩
  have hg:∀ z,l.getD i z=d:=λz=>by rw [xk,List.getElem?_eq_getElem h,hd];rfl
  have hm:Small d:=hs d (by rw [<- hd];exact List.getElem_mem h)
  obtain ⟨n,e,m2,h48,G2⟩:=F62_fine G' d hm.1 hm.2
  obtain ⟨dd,du,db,dt,uid,how,fl,ds,de,by',⟨⟩⟩:=d
  by_cases he:e=0
  ·subst he
   left
   have hb:zC (o.length+[n].length) 8=true:=zT (by simp only [va];omega)
   refine ⟨_,by simp only [wb,d0,d1,z8,zG,zE,zr,hg,h48,zU,zu,zJ,hb,w1];rfl,⟨i+1,m2,_,h,?_,G2,rfl⟩,?_⟩
   ·rw [yU,va];omega
   ·simp only;omega
  ·right
   refine ⟨.inr ((true,(),(i:Int),e,()),(((),()),m2,[],())),?_,_,_,_,_,rfl,G2⟩
   simp only [wb,d0,d1,z8,zG,zE,zr,hg,h48,zz he,yq]
 ·have hi':i=l.length:=by omega
  subst hi'
  right
  refine ⟨.inl ((true,(),()),(((),()),m',o,())),?_,_,_,rfl,G'⟩
  simp only [wb,Int.lt_irrefl,yp,zJ]
theorem F20_eq {m:Mp} {name:Tx} {u:Tx×(Int×(List Bx×Unit))} (hm:zF .str m name=some u) (G:Good (usr u)) :
  F20 ((some (m,()),name,()),())=some (((u.1,u.2.1,(),()),0,()),(u.2.2.1,())):=by
 obtain ⟨un,uv,ls,⟨⟩⟩:=u
 have hF:=zK
 have hl:ls.length<=6:=G.few
 have e30:=F32_eq ls (by omega)
 have hL:∀ xs:List Bx,L20_0 (((),(),(),((ls.length:Nat):Int),(0:Int),()),(((),(),(),()),(un,uv,(),()),ls,xs,()))=some (((),(),()),(((),(),(),()),(un,uv,(),()),xs,ls,())):=λxs=>by
  unfold L20_0
  refine (yL (f:=B20_0) (λ(_:Unit) i=>(((),(),(),((ls.length:Nat):Int),(i:Int),()),(((),(),(),()),(un,uv,(),()),ls,xs,()))) ls (λ_ _=>.inl ()) (λ_=>(((),(),()),(((),(),(),()),(un,uv,(),()),xs,ls,())))
   (λb i a hi ha=>?_) (λb=>?_) (by omega) (b:=())).trans ?_
  ·have hma:a∈ls:=by
    have:=ha yH
    rw [xk,List.getElem?_eq_getElem hi] at this
    rw [<- this]
    exact List.getElem_mem hi
   have R:=G.each a hma
   have e31:=F33_eq (yI a) R.few λl hl'=>(R.each l hl').2.2.2
   unfold yI at e31
   have d0:decide ((i:Int)<((ls.length:Nat):Int))=true:=zW (by omega)
   have d1:decide ((0:Int)<=(i:Int))=true:=zW (by omega)
   have w1:zX ((i:Int)+1)=((i+1:Nat):Int):=by rw [zO (by omega) (by omega)];rfl
   have hset:ls.set i (a.1,(a.2.1,(a.2.2.1,(a.2.2.2.1,()))))=ls:=set_same ls i _ ha
   simp only [B20_0,d0,d1,z8,zG,zE,zr,ha,e31,hset,w1]
  ·simp only [B20_0,Int.lt_irrefl,yp,zJ]
  ·have:∀ (l:List Bx) (z:(Unit×Unit×Unit)×((Unit×Unit×Unit×Unit)×(Tx×Int×Unit×Unit)×List Bx×List Bx×Unit)),zd (λ(_:Bx) (_:Unit)=>(.inl ():Unit⊕_)) (λ_=>z) () l=z:=λl z=>by
    induction l with
    | nil=>rfl
    | cons a t ih=>exact ih
   rw [this]
 simp only [F20,Option.isNone_some,zu,zJ,zG,zE,List.getD_cons_zero,hm,Option.isSome_some,Option.getD_some,e30,hL]
theorem L367_eq (nm:List UInt8) (v n:Int) (ls:List yO) (hl:ls.length<=32):L367_0 (((),(0:Int),()),((nm,v,n,ls,()),()))=some (chk n ls):=by
 have hF:=zK
 refine zs (f:=B367_0) (λ(_:Int) i=>(((),(i:Int),()),((nm,v,n,ls,()),()))) ls (chk1 n) _ (λb i=>0<=b/\(i=0->b=0)/\(∀ d,0<i->(ls.getD (i-1) d).1=b))
  (λb i a hI hi ha=>?_) (λb _=>?_) (by omega) ⟨by omega,λ_=>rfl,λ_ h=>absurd h (Nat.lt_irrefl _)⟩
 ·obtain ⟨hb,hb0,hbp⟩:=hI
  have hw:0<i->zX ((i:Int)-1)=((i-1:Nat):Int):=λh=>by
   rw [zO (by omega) (by omega)];omega
  have hc:(decide (a.1<(1:Int))||decide (n<=a.1)||(decide ((0:Int)<(i:Int))&&decide (a.1<=(ls.getD (Int.toNat (zX ((i:Int)-1))) ((0:Int),((0:UInt8),(([]:(List UInt8)),())))).1)))=decide (a.1<=b\/n<=a.1):=by
   by_cases h0:0<i
   ·rw [hw h0,zr,hbp _ h0]
    rw [Bool.eq_iff_iff]
    simp only [Bool.or_eq_true,yk,xX]
    omega
   ·have:=hb0 (by omega)
    rw [Bool.eq_iff_iff]
    simp only [Bool.or_eq_true,yk,xX]
    omega
  have hg:(((decide ((0:Int)<=(zX ((i:Int)-(1:Int)))))&&(decide ((zX ((i:Int)-(1:Int)))<(((List.length ls):Nat):Int))))||(!((decide ((0:Int)<(i:Int)))&&(!((decide (a.1<(1:Int)))||(decide (n<=a.1)))))))=true:=by
   by_cases h0:0<i
   ·rw [hw h0,yc,ym]
    simp;omega
   ·simp [h0]
  simp only [B367_0,ym,yc,hi,zU,Bool.and_true,zG,zE,zr,ha]
  rw [hg,hc]
  simp only [zG,zE]
  unfold chk1
  by_cases h1:a.1<=b\/n<=a.1
  ·exact .inr ⟨_,if_pos h1,by simp [h1]⟩
  ·simp only [h1,↓reduceIte]
   by_cases h2:32<=a.2.1.toNat
   ·exact .inr ⟨_,if_pos h2,by
     have h2':31<a.2.1.toNat:=by omega
     simp [h2']⟩
   ·have h2':¬ 31<a.2.1.toNat:=by omega
    rw [if_neg h2]
    by_cases h3:600<a.2.2.1.length
    ·have h3':(600:Int)<(a.2.2.1.length:Int):=by omega
     exact .inr ⟨_,if_pos h3,by simp [h2',h3']⟩
    ·have h3':¬ (600:Int)<(a.2.2.1.length:Int):=by omega
     exact .inl ⟨_,if_neg h3,⟨by omega,by omega,λd _=>by rw [Nat.add_sub_cancel,ha]⟩,by simp [h2',h3',zO (n:=(i:Int)+1) (by omega) (by omega)]⟩
 ·simp only [B367_0,Int.lt_irrefl,yp,zJ]
theorem F34c_eq (b:wI):F367 ((b,()),())=some (y7 b,()):=by
 obtain ⟨nm,v,n,ls,u⟩:=b
 cases u
 simp only [F367,y7]
 by_cases h1:v<1\/4294967295<v\/n<1\/4294967295<n
 ·have e:(decide (v<(1:Int))||decide ((4294967295:Int)<v)||decide (n<(1:Int))||decide ((4294967295:Int)<n))=true:=by
   simp only [Bool.or_eq_true,xX];omega
  simp only [h1,↓reduceIte,e,zG]
 ·have e:(decide (v<(1:Int))||decide ((4294967295:Int)<v)||decide (n<(1:Int))||decide ((4294967295:Int)<n))=false:=by
   simp only [Bool.or_eq_false_iff,decide_eq_false_iff_not];omega
  simp only [h1,↓reduceIte,e,zJ]
  by_cases h3:32<ls.length
  ·have h3':(32:Int)<(ls.length:Int):=by omega
   simp [h3,h3']
  ·have h3':¬ (32:Int)<(ls.length:Int):=by omega
   simp only [h3,h3',L367_eq nm v n ls (by omega),yp,zJ,zE,↓reduceIte]
   cases chk n ls <;> rfl
theorem F405_eq (b:wI) (f:UInt8) (p:List UInt8):F405 ((b,f,p,()),())=some (add b f p,()):=by
 have e34:=F34c_eq b
 have ez:=check_zero (b:=b)
 obtain ⟨nm,v,n,ls,u⟩:=b
 cases u
 unfold add
 simp only [F405,e34,zE]
 generalize hc:y7 (nm,v,n,ls,())=c at *
 by_cases h0:c=0
 ·have R:=ez.mp h0
  have hr:=R.few
  have hn:=R.next
  simp only at hr hn
  simp only [h0,ne_eq,not_true_eq_false,↓reduceIte,zU,zu,zJ]
  by_cases h1:32<=f.toNat
  ·have h1':31<f.toNat:=by omega
   simp [h1,h1',yY]
  ·have h1':¬ 31<f.toNat:=by omega
   by_cases h2:600<p.length
   ·have h2':(600:Int)<(p.length:Int):=by omega
    simp [h1,h1',h2,h2',yY]
   ·have h2':¬ (600:Int)<(p.length:Int):=by omega
    by_cases h3:ls.length=32\/n=4294967295
    ·have h3':(decide ((31:Int)<((ls.length:Nat):Int))||decide (4294967294<n))=true:=by
      simp only [Bool.or_eq_true,xX];omega
     simp [h1,h1',h2,h2',h3,h3',yY]
    ·have h3':(decide ((31:Int)<((ls.length:Nat):Int))||decide (4294967294<n))=false:=by
      simp only [Bool.or_eq_false_iff,decide_eq_false_iff_not];omega
     have hb:zC (ls.length+1) 40=true:=zT (by omega)
     have hb1:zC ls.length 40=true:=zT (by omega)
     have hb2:zC p.length 1=true:=zT (by omega)
     simp only [show UInt8.toNat 31=31 from rfl,h1,h1',h2,h2',h3,h3',yp,zJ,zE,↓reduceIte,List.length_cons,List.length_nil,Nat.zero_add,hb,hb1,hb2,zG,List.nil_append,
      zO (n:=n+1) (by omega) (by omega),zR]
 ·simp [h0,yY]
def wthL (uid:Int) (l:List yO) (a:yO):List yO:=if a.1=uid then l else [a]
def stp88 (uid:Int) (l:List yO) (a:yO) (b:Bool×List yO):(Bool×List yO)⊕((Unit×Unit×Bool×Unit)×((Unit×Unit×Unit×Unit×Unit)×((List UInt8)×Int×Int×Unit×Unit)×List yO×List yO×Unit)) :=
 .inl (b.1||decide (a.1=uid),b.2++wthL uid l a)
theorem fold88 (uid:Int) (l:List yO) (fin):∀ (ls:List yO) (b:Bool×List yO),zd (stp88 uid l) fin b ls=fin (b.1||has ls uid,b.2++ls.flatMap (wthL uid l))
 | [],b=>by simp [zd,has]
 | a::t,b=>by
  simp only [zd,stp88]
  rw [fold88 uid l fin t]
  simp [has,Bool.or_assoc]
theorem F428_eq (b:wI) (uid:Int) (l:List yO) (hl:b.2.2.2.1.length<=32) (h1:l.length<=1) :
  F428 ((b,uid,l,()),())=some (((b.1,b.2.1,b.2.2.1,b.2.2.2.1.flatMap (wthL uid l),()),has b.2.2.2.1 uid,()),()):=by
 obtain ⟨nm,v,n,ls,u⟩:=b
 cases u
 have hF:=zK
 change ls.length<=32 at hl
 have h:L428_0 ((uid,l,(),(),(),false,(0:Int),()),((nm,v,n,ls,()),((),(),(),(),()),(nm,v,n,(),()),[],[],()))=some (zd (stp88 uid l) (λb=>(((),(),b.1,()),(((),(),(),(),()),(nm,v,n,(),()),[],b.2,()))) (false,[]) ls):=by
  refine zs (f:=B428_0) (λ(b:Bool×List yO) i=>((uid,l,(),(),(),b.1,(i:Int),()),((nm,v,n,ls,()),((),(),(),(),()),(nm,v,n,(),()),[],b.2,()))) ls (stp88 uid l) _ (λb i=>b.2.length<=i) (b:=(false,[]))
   (λb i a hI hi ha=>.inl ⟨_,rfl,?_,?_⟩) (λb _=>?_) (by omega) (Nat.le_refl _)
  ·simp only [yU,wthL]
   split
   ·omega
   ·simp only [List.length_cons,List.length_nil];omega
  ·have hb1:zC (b.2.length+l.length) 40=true:=zT (by omega)
   have hb2:zC (b.2.length+1) 40=true:=zT (by omega)
   simp only [B428_0,ym,yc,hi,zU,Bool.and_true,zG,zE,zr,ha,List.length_cons,List.length_nil,Nat.zero_add,hb1,hb2,wthL]
   by_cases hc:a.1=uid
   ·simp only [hc,zU,zG,zE,Bool.or_true,↓reduceIte,yN (show i<9223372036854775807 by omega)]
   ·simp only [hc,yp,zJ,zE,Bool.or_false,↓reduceIte,yN (show i<9223372036854775807 by omega)]
  ·simp only [B428_0,Int.lt_irrefl,yp,zJ]
 rw [fold88] at h
 simp only [F428,h,zE,Bool.false_or,List.nil_append]
theorem flat_filter (uid:Int):∀ (ls:List yO),ls.flatMap (wthL uid [])=ls.filter (keep uid)
 | []=>rfl
 | a::t=>by
  rw [List.flatMap_cons,flat_filter uid t,List.filter_cons]
  by_cases h:a.1=uid <;> simp [wthL,keep,h]
theorem F407_eq (b:wI) (uid:Int):F407 ((b,uid,()),())=some (cut b uid,()):=by
 have e34:=F34c_eq b
 have e88:=F428_eq b uid []
 have ez:=check_zero (b:=b)
 obtain ⟨nm,v,n,ls,u⟩:=b
 cases u
 unfold cut
 simp only [F407,e34,zE]
 generalize hc:y7 (nm,v,n,ls,())=c at *
 by_cases h0:c=0
 ·have R:=ez.mp h0
  simp only [h0,ne_eq,not_true_eq_false,↓reduceIte,zU,zu,zJ,e88 R.few (Nat.zero_le _),zE,flat_filter]
  cases hh:has ls uid
  ·simp [yY]
  ·simp
 ·simp [h0,yY]
theorem bits_all:((List.range 32).all λx=>(List.range 32).all λy=>decide (bits 0 (UInt8.ofNat x) (UInt8.ofNat y)=lay 0 (UInt8.ofNat x) (UInt8.ofNat y))&&decide (bits 1 (UInt8.ofNat x) (UInt8.ofNat y)=lay 1 (UInt8.ofNat x) (UInt8.ofNat y))&&decide (bits 2 (UInt8.ofNat x) (UInt8.ofNat y)=lay 2 (UInt8.ofNat x) (UInt8.ofNat y)))=true:=by kernel_rfl
theorem bits_eq {how:Int} {was f:UInt8} (h1:0<=how) (h2:how<=2) (hw:was.toNat<32) (hf:f.toNat<32):bits how was f=lay how was f:=by
 have h:=List.all_eq_true.mp (List.all_eq_true.mp bits_all was.toNat (List.mem_range.mpr hw)) f.toNat (List.mem_range.mpr hf)
 rw [UInt8.ofNat_toNat,UInt8.ofNat_toNat,yk,yk,xX,xX,xX] at h
 obtain rfl | rfl | rfl:how=0\/how=1\/how=2:=by omega
 ·exact h.1.1
 ·exact h.1.2
 ·exact h.2
theorem tM (b:wI) (uid how:Int) (f is bit:UInt8) (l:yO) (ks:List yO) (hb:bit.toNat<32) (h0:bit≠0) :
  B406_1 ((uid,how,f,(),(),(),is,bit,()),(b,((),(),(),(),()),l,ks,()))=some (.inl ((uid,how,f,(),(),(),stpB how l.2.1 f bit is,bit*2,()),(b,((),(),(),(),()),l,ks,()))):=by
 have h2:decide ((2:UInt8)≠0)=true:=rfl
 have hb':decide (bit.toNat<UInt8.toNat 32)=true:=zW hb
 have h0':decide (bit≠0)=true:=zW h0
 simp only [B406_1,hb',h0',h2,zG,zE,stpB]
 generalize hq:(decide (how=0)&&decide (f/bit % 2=1)||decide (how=1)&&(decide (l.2.1/bit % 2=1)||decide (f/bit % 2=1))||decide (how=2)&&decide (l.2.1/bit % 2=1)&&!decide (f/bit % 2=1))=q
 cases q
 ·simp only [zJ,zE,Bool.false_eq_true,↓reduceIte]
 ·simp only [zG,zE,↓reduceIte]
theorem tE {σ τ:Type} {f:σ->Option (σ⊕τ)} {p q:σ} {n:Nat} (h:f p=some (.inl q)):iter f (n+1) p=iter f n q:=by
 simp only [iter,h]
theorem L406_1_eq (b:wI) (uid how:Int) (f:UInt8) (l:yO) (ks:List yO) :
  L406_1 ((uid,how,f,(),(),(),0,1,()),(b,((),(),(),(),()),l,ks,()))=some ((uid,(),(),(),bits how l.2.1 f,()),(b,((),(),(),(),()),l,ks,())):=by
 change iter B406_1 (9223372036854775802+1+1+1+1+1+1) _=_
 rw [tE (tM b uid how f _ 1 l ks (by decide) (by decide)),tE (tM b uid how f _ (1*2) l ks (by decide) (by decide)),tE (tM b uid how f _ (1*2*2) l ks (by decide) (by decide)),
  tE (tM b uid how f _ (1*2*2*2) l ks (by decide) (by decide)),tE (tM b uid how f _ (1*2*2*2*2) l ks (by decide) (by decide))]
 have e:decide (UInt8.toNat (1*2*2*2*2*2)<UInt8.toNat 32)=false:=by decide
 simp only [iter,B406_1,e,zJ]
 rfl
abbrev R67:Type:=((Unit×Unit)×((Unit×Unit×Unit×Unit×Unit)×List yO×Unit))⊕((Unit×Unit×Unit)×((List UInt8)×Int×Int×List yO×Unit)×Unit)
def stp67 (nm:List UInt8) (v n:Int) (ls:List yO) (uid how:Int) (f:UInt8) (a:yO) (_:Unit):Unit⊕R67 :=
 if a.1=uid then .inr (.inr (((),(),()),((nm,v,n,ls.flatMap (wthL uid [(a.1,bits how a.2.1 f,a.2.2.1,())]),()),()))) else .inl ()
theorem L406_0_eq (nm:List UInt8) (v n:Int) (ls:List yO) (uid how:Int) (f:UInt8) (hl:ls.length<=32) :
  L406_0 ((uid,how,f,(),(),(0:Int),()),((nm,v,n,ls,()),((),(),(),(),()),[],()))=some (zd (stp67 nm v n ls uid how f) (λ_=>.inl (((),()),(((),(),(),(),()),[],()))) () ls):=by
 have hF:=zK
 refine yL (f:=B406_0) (λ(_:Unit) i=>((uid,how,f,(),(),(i:Int),()),((nm,v,n,ls,()),((),(),(),(),()),[],()))) ls (stp67 nm v n ls uid how f) _ (λb i a hi ha=>?_) (λb=>?_) (by omega)
 ·have e88:=F428_eq (nm,v,n,ls,()) uid [(a.1,bits how a.2.1 f,a.2.2.1,())] hl (by simp)
  have e67:=L406_1_eq (nm,v,n,ls,()) uid how f (a.1,a.2.1,a.2.2.1,()) []
  simp only at e88 e67
  simp only [B406_0,ym,yc,hi,zU,Bool.and_true,zG,zE,zr,ha,stp67]
  by_cases hc:a.1=uid
  ·simp only [hc,zU,zu,zJ,↓reduceIte]
   rw [hc] at e67 e88
   rw [e67]
   simp only [zE]
   rw [e88]
   simp only [zE]
  ·simp only [hc,yp,yq,zG,↓reduceIte,yN (show i<9223372036854775807 by omega)]
 ·simp only [B406_0,Int.lt_irrefl,yp,zJ]
theorem flat_map {ls:List yO} (h:ls.Pairwise (λa b=>a.1<b.1)) {uid:Int} {a:yO} (ha:a∈ls) (he:a.1=uid) (g:yO->yO) :
  ls.flatMap (wthL uid [g a])=ls.map λx=>if x.1=uid then g x else x:=by
 have:∀ t:List yO,(∀ x∈t,x∈ls)->t.flatMap (wthL uid [g a])=t.map λx=>if x.1=uid then g x else x:=by
  intro t
  induction t with
  | nil=>intro _;rfl
  | cons x t ih =>
   intro hx
   rw [List.flatMap_cons,ih (λy hy=>hx y (List.mem_cons_of_mem _ hy)),List.map_cons]
   by_cases hq:x.1=uid
   ·obtain ⟨i,hi,hi2⟩:=List.getElem_of_mem ha
    obtain ⟨j,hj,hj2⟩:=List.getElem_of_mem (hx x (List.mem_cons_self ..))
    have:i=j:=rise_inj h hi hj (by rw [hi2,hj2,he,hq])
    subst this
    obtain rfl:a=x:=by rw [<- hi2,<- hj2]
    simp [wthL,hq]
   ·simp [wthL,hq]
 exact this ls λ_ h=>h
theorem fold67 (nm:List UInt8) (v n:Int) (ls:List yO) (uid how:Int) (f:UInt8) (z:R67) (hr:ls.Pairwise (λa b=>a.1<b.1)) (h32:∀ l∈ls,l.2.1.toNat<32) (h1:0<=how) (h2:how<=2) (hf:f.toNat<32) :
  ∀ t:List yO,(∀ x∈t,x∈ls)->zd (stp67 nm v n ls uid how f) (λ_=>z) () t=if has t uid then .inr (((),(),()),((nm,v,n,ls.map (relay uid how f),()),())) else z
 | [],_=>rfl
 | a::t,hx=>by
  by_cases hc:a.1=uid
  ·have hm:=hx a (List.mem_cons_self ..)
   have e:=flat_map hr hm hc (λa=>(a.1,lay how a.2.1 f,a.2.2.1,()))
   have hb:=bits_eq h1 h2 (h32 a hm) hf
   simp only [zd,stp67,hc,↓reduceIte,has,List.any_cons,zU,Bool.true_or,hb]
   rw [hc] at e
   rw [e]
   have hm:(λa:yO=>if a.1=uid then (a.1,lay how a.2.1 f,a.2.2.1,()) else a)=relay uid how f:=rfl
   rw [hm]
  ·have ih:=fold67 nm v n ls uid how f z hr h32 h1 h2 hf t (λy hy=>hx y (List.mem_cons_of_mem _ hy))
   simp only [zd,stp67,hc,↓reduceIte,has,List.any_cons,yp,Bool.false_or]
   exact ih
theorem F406_eq (b:wI) (uid how:Int) (f:UInt8):F406 ((b,uid,how,f,()),())=some (flag b uid how f,()):=by
 have e34:=F34c_eq b
 have ez:=check_zero (b:=b)
 obtain ⟨nm,v,n,ls,u⟩:=b
 cases u
 unfold flag
 simp only [F406,e34,zE]
 generalize hc:y7 (nm,v,n,ls,())=c at *
 by_cases h0:c=0
 ·have R:=ez.mp h0
  simp only [h0,ne_eq,not_true_eq_false,↓reduceIte,zU,zu,zJ]
  by_cases hb:how<0\/2<how\/32<=f.toNat
  ·have e:((!decide (how=0))&&(!decide (how=1))&&(!decide (how=2))||decide (UInt8.toNat 31<f.toNat))=true:=by
    simp only [Bool.or_eq_true,yk,Bool.not_eq_true',decide_eq_false_iff_not,xX,show UInt8.toNat 31=31 from rfl];omega
   simp only [e,zG,hb,↓reduceIte,yY]
  ·have e:((!decide (how=0))&&(!decide (how=1))&&(!decide (how=2))||decide (UInt8.toNat 31<f.toNat))=false:=by
    obtain rfl | rfl | rfl:how=0\/how=1\/how=2:=by omega
    all_goals
     simp only [Bool.or_eq_false_iff,decide_eq_false_iff_not,show UInt8.toNat 31=31 from rfl]
     exact ⟨rfl,by omega⟩
   have e67:=fold67 nm v n ls uid how f (.inl (((),()),(((),(),(),(),()),[],()))) R.rise (λl hl=>(R.each l hl).2.2.1) (by omega) (by omega) (by omega) ls (λ_ h=>h)
   simp only [e,zJ,hb,↓reduceIte,L406_0_eq nm v n ls uid how f R.few,e67,zE]
   cases hh:has ls uid
   ·simp [yY]
   ·simp
 ·simp [h0,yY]
theorem loop_sim {σ τ σ' τ':Type} {f:σ->Option (σ⊕τ)} {g:σ'->Option (σ'⊕τ')} (R:σ->σ'->Prop) (T:τ->τ'->Prop)
  (h:∀ p q,R p q->(f p=none/\g q=none)\/(∃ p' q',f p=some (.inl p')/\g q=some (.inl q')/\R p' q')\/(∃ r s,f p=some (.inr r)/\g q=some (.inr s)/\T r s)) :
  ∀ p q,R p q->(zP f p=none/\zP g q=none)\/∃ r s,zP f p=some r/\zP g q=some s/\T r s:=by
 have key:∀ n p q,R p q->(iter f n p=none/\iter g n q=none)\/∃ r s,iter f n p=some r/\iter g n q=some s/\T r s:=by
  intro n
  induction n with
  | zero=>intro p q _;left;exact ⟨by simp [iter],by simp [iter]⟩
  | succ n ih =>
   intro p q hR
   rcases h p q hR with ⟨h1,h2⟩ | ⟨p',q',h1,h2,h3⟩ | ⟨r,s,h1,h2,h3⟩
   ·left;simp [iter,h1,h2]
   ·simp only [iter,h1,h2]
    exact ih p' q' h3
   ·right;exact ⟨r,s,by simp [iter,h1],by simp [iter,h2],h3⟩
 exact λp q hR=>key yn p q hR
theorem L63_all (s:List UInt8):∀ (k i:Nat),s.length-i<k->(s.drop i).all okc=true->iter uL k ((s,(),()),((s,i),()))=some (.inl ((s,()),()))
 | 0,_,h,_=>absurd h (Nat.not_lt_zero _)
 | k+1,i,hk,ha=>by
  rw [iter]
  by_cases hi:i<s.length
  ·have hd:Utf8.decode ⟨s.toArray⟩ i=Lib.decodeL (s.drop i):=dec_at hi
   have hb:uL ((s,(),()),((s,i),()))=cond (!okn ((Lib.decodeL (s.drop i)).1:Int)) (some (Sum.inr (Sum.inr (((),()),())))) (some (Sum.inl ((s,(),()),((s,(i+(Lib.decodeL (s.drop i)).2)),())))):=by
    rw [<- hd]
    simp only [uL,hi,zU,zG]
    rfl
   rw [hb]
   have e:=drop_all hi
   rw [e,List.all_cons,yk] at ha
   obtain ⟨l1,l2⟩:=dec_low (s.drop i)
   have hlow:((s.drop i).getD 0 0).toNat<128:=by
    rcases Nat.lt_or_ge ((s.drop i).getD 0 0).toNat 128 with h' | h'
    ·exact h'
    ·exfalso
     have:=okn_big h'
     rw [<- okc_eq,e] at this
     simp only [List.getD_cons_zero] at this
     rw [this] at ha
     cases ha.1
   have hn:okn (((s.drop i).getD 0 0).toNat:Int)=true:=by
    rw [<- okc_eq,e]
    exact ha.1
   rw [l1 hlow]
   simp only [hn,zu,zJ]
   exact L63_all s k (i+1) (by omega) ha.2
  ·simp only [uL,hi,yp,zJ]
theorem uw (s:Tx) (hs:s.length<=maxLen):F63 ((s,()),())=some (yl s,()):=by
 obtain ⟨b,hb⟩:=F63_some s hs
 cases b with
 | true=>rw [hb,F63_good hb hs]
 | false =>
  cases hr:yl s with
  | false=>exact hb
  | true =>
   have hF:maxLen<yn:=by unfold maxLen yn;omega
   unfold yl at hr
   simp only [yk,xX] at hr
   have hL:L63_0 ((s,(),()),((s,0),()))=some (.inl ((s,()),())):=L63_all s yn 0 (by omega) (by rw [List.drop_zero];exact hr.1.1)
   have h1:s≠[]:=by
    intro h
    rw [h] at hr
    simp at hr
   have h2:((s.length:Nat):Int)<=24:=by omega
   simp only [F63,hL,zE,zz h1,zW h2,yq,z8]
abbrev St44:Type:=(Unit×Int×Int×Bool×List Bx×Int×Int×Unit)×(wg×Unit)
abbrev St13:Type:=(Unit×Bool×Int×Int×Int×Unit)×(wg×Unit)
theorem L47_L13 (un:Tx) (uv:Int) (ls:List Bx) (hl:ls.length<=6) (hn:∀ b∈ls,b.1.length<=1100000) (p:St44) (q:St13)
  (h:∃ (i:Nat) (a b:Int) (o:Bool),i<=ls.length/\p=(((),a,b,o,ls,((ls.length:Nat):Int),(i:Int),()),((un,uv,ls,()),()))/\q=(((),o,a,b,(i:Int),()),((un,uv,ls,()),()))) :
  (L47_0 p=none/\L347_0 q=none)\/∃ (r:R44) (s:R13),L47_0 p=some r/\L347_0 q=some s /\
   ((∃ (a b:Int) (o:Bool),r=.inl ((a,b,o,()),())/\s=.inl ((o,a,b,()),()))\/∃ e:Int,r=.inr ((e,()),())/\s=.inr ((e,()),())):=by
 refine loop_sim (f:=uj) (g:=uN) (λp q=>∃ (i:Nat) (a b:Int) (o:Bool),i<=ls.length/\p=(((),a,b,o,ls,((ls.length:Nat):Int),(i:Int),()),((un,uv,ls,()),()))/\q=(((),o,a,b,(i:Int),()),((un,uv,ls,()),())))
  (λ(r:R44) (s:R13)=>((∃ (a b:Int) (o:Bool),r=.inl ((a,b,o,()),())/\s=.inl ((o,a,b,()),()))\/∃ e:Int,r=.inr ((e,()),())/\s=.inr ((e,()),()))) ?_ p q h
 rintro p q ⟨i,a,b,o,hi,rfl,rfl⟩
 rcases Nat.lt_or_ge i ls.length with h | h
 ·have d0:decide ((i:Int)<((ls.length:Nat):Int))=true:=zW (by omega)
  have d1:decide ((0:Int)<=(i:Int))=true:=zW (by omega)
  have w1:zX ((i:Int)+1)=((i+1:Nat):Int):=by rw [zO (by omega) (by omega)];rfl
  obtain ⟨⟨bn,bv,bx,bl,⟨⟩⟩,hb⟩:∃ b,ls.getD i yH=b:=⟨_,rfl⟩
  have hgd:ls.getD i (([]:List UInt8),((0:Int),((0:Int),(([]:(List yO)),()))))=(bn,bv,bx,bl,()):=hb
  have hmem:(bn,bv,bx,bl,())∈ls:=by
   rw [<- hb,xk,List.getElem?_eq_getElem h]
   exact List.getElem_mem h
  have e70:=F64_eq bn
  have e33:=yV bn (hn _ hmem)
  have e71:=F65_eq (bn,bv,bx,bl,())
  have e34:=F34c_eq (bn,bv,bx,bl,())
  have g:((decide ((0:Int)<=zX ((i:Int)-(1:Int)))&&decide (zX ((i:Int)-(1:Int))<((ls.length:Nat):Int)))||(!(decide ((0:Int)<(i:Int))&&(!(!(zl bn))))))=true:=by
   cases i with
   | zero=>simp
   | succ j =>
    have w2:zX (((j+1:Nat):Int)-1)=(j:Int):=by rw [zO (by omega) (by omega)];omega
    rw [w2,zW (show (0:Int)<=(j:Int) by omega),zW (show (j:Int)<((ls.length:Nat):Int) by omega)]
    rfl
  obtain ⟨bad,hbad⟩:∃ x,((!(zl bn))||(decide ((0:Int)<(i:Int))&&(Op.bytesLess bn (ls.getD (Int.toNat (zX ((i:Int)-(1:Int)))) (([]:List UInt8),((0:Int),((0:Int),(([]:(List yO)),()))))).1||decide (bn=(ls.getD (Int.toNat (zX ((i:Int)-(1:Int)))) (([]:List UInt8),((0:Int),((0:Int),(([]:(List yO)),()))))).1))))=x:=⟨_,rfl⟩
  cases bad with
  | true =>
   right;right
   refine ⟨.inr ((4,()),()),.inr ((4,()),()),?_,?_,.inr ⟨4,rfl,rfl⟩⟩
   ·simp only [uj,d0,d1,z8,zG,zr,hgd,zE,e70,g,hbad]
   ·simp only [uN,d0,d1,z8,zG,zr,hgd,zE,e33,g,hbad]
  | false =>
   by_cases hc:y7 (bn,bv,bx,bl,())=0
   ·have R:=check_zero.1 hc
    have e72:=F66_eq (bn,bv,bx,bl,()) (Nat.le_trans R.few (by decide))
    have e35:=F368_eq (bn,bv,bx,bl,()) R.few
    by_cases hv:uv<bv
    ·right;right
     refine ⟨.inr ((2,()),()),.inr ((2,()),()),?_,?_,.inr ⟨2,rfl,rfl⟩⟩
     ·simp only [uj,d0,d1,z8,zG,zr,hgd,zE,e70,g,hbad,zJ,e71,hc,zU,zu,zW hv]
     ·simp only [uN,d0,d1,z8,zG,zr,hgd,zE,e33,g,hbad,zJ,e34,hc,zU,zu,zW hv]
    ·right;left
     refine ⟨(((),zX (a+(bl.length:Int)),zX (b+size bl),(o||decide (bn=inbx)),ls,((ls.length:Nat):Int),((i+1:Nat):Int),()),((un,uv,ls,()),())),
      (((),(o||decide (bn=inbx)),zX (a+(bl.length:Int)),zX (b+size bl),((i+1:Nat):Int),()),((un,uv,ls,()),())),?_,?_,i+1,_,_,_,h,rfl,rfl⟩
     ·simp only [uj,d0,d1,z8,zG,zr,hgd,zE,e70,g,hbad,zJ,e71,hc,zU,zu,zz hv,e72,w1]
      rfl
     ·simp only [uN,d0,d1,z8,zG,zr,hgd,zE,e33,g,hbad,zJ,e34,hc,zU,zu,zz hv,e35,w1]
      rfl
   ·right;right
    refine ⟨.inr ((y7 (bn,bv,bx,bl,()),()),()),.inr ((y7 (bn,bv,bx,bl,()),()),()),?_,?_,.inr ⟨_,rfl,rfl⟩⟩
    ·simp only [uj,d0,d1,z8,zG,zr,hgd,zE,e70,g,hbad,zJ,e71,zz hc,yq]
    ·simp only [uN,d0,d1,z8,zG,zr,hgd,zE,e33,g,hbad,zJ,e34,zz hc,yq]
 ·have hi':i=ls.length:=by omega
  subst hi'
  right;right
  refine ⟨.inl ((a,b,o,()),()),.inl ((o,a,b,()),()),?_,?_,.inl ⟨a,b,o,rfl,rfl⟩⟩
  ·simp only [uj,Int.lt_irrefl,yp,zJ]
  ·simp only [uN,Int.lt_irrefl,yp,zJ]
theorem F347_F44 (u:wg) (hu:u.1.length<=maxLen) (hn:∀ b∈u.2.2.1,b.1.length<=1100000):F347 ((u,()),())=F47 ((u,()),()):=by
 obtain ⟨un,uv,ls,⟨⟩⟩:=u
 simp only [F347,F47,wa un hu,uw un hu,zE]
 cases yl un with
 | false=>rfl
 | true =>
  simp only [zu,zJ]
  cases (decide (uv<1)||decide (4294967295<uv)) with
  | true=>rfl
  | false =>
   simp only [zJ]
   have e:decide (((ls.length:Nat):Int)<1)=decide (((ls.length:Nat):Int)=0):=by rw [decide_eq_decide];omega
   rw [e]
   cases h2:(decide (((ls.length:Nat):Int)=0)||decide ((6:Int)<((ls.length:Nat):Int))) with
   | true=>rfl
   | false =>
    simp only [zJ]
    rw [Bool.or_eq_false_iff,decide_eq_false_iff_not,decide_eq_false_iff_not] at h2
    rcases L47_L13 un uv ls (by omega) hn (((),(0:Int),(0:Int),false,ls,((ls.length:Nat):Int),(0:Int),()),((un,uv,ls,()),())) (((),false,(0:Int),(0:Int),(0:Int),()),((un,uv,ls,()),()))
     ⟨0,0,0,false,Nat.zero_le _,rfl,rfl⟩ with ⟨h3,h4⟩ | ⟨r,s,h3,h4,⟨a,b,o,rfl,rfl⟩ | ⟨e,rfl,rfl⟩⟩
    ·rw [h3,h4];rfl
    ·rw [h3,h4];rfl
    ·rw [h3,h4];rfl
def numG (v:Nat) (c:UInt8):Nat:=v*256+c.toNat
def numv (bs:List UInt8):Nat:=bs.foldl numG 0
theorem foldS_inl {α β τ:Type} (g:β->α->β) (fin:β->τ):∀ (l:List α) (b:β),zd (λa b=>(.inl (g b a):β⊕τ)) fin b l=fin (l.foldl g b)
 | [],_=>rfl
 | a::t,b=>foldS_inl g fin t (g b a)
theorem numG_lt (v:Nat) (c:UInt8) (i:Nat) (hv:v<256^i):numG v c<256^(i+1):=by
 have hc:=c.toNat_lt
 unfold numG
 rw [Nat.pow_succ]
 have:(v+1)*256<=256^i*256:=uP _ hv
 omega
theorem pow4 {i:Nat} (h:i<=3):(256:Nat)^i<=16777216:=Nat.pow_le_pow_right (n:=256) (by omega) h
theorem foldl_lt:∀ (bs:List UInt8) (v i:Nat),v<256^i->bs.foldl numG v<256^(i+bs.length)
 | [],_,_,h=>h
 | c::t,v,i,h=>by
  have:=foldl_lt t (numG v c) (i+1) (numG_lt v c i h)
  rw [List.foldl_cons,List.length_cons,show i+(t.length+1)=i+1+t.length by omega]
  exact this
theorem numv_lt (bs:List UInt8):numv bs<256^bs.length:=by
 have:=foldl_lt bs 0 0 (by simp)
 rwa [Nat.zero_add] at this
theorem L89_eq (l bs:List UInt8) (hb:bs.length<=4):L89_0 (((),(0:Int),bs,((bs.length:Nat):Int),(0:Int),()),((l,()),()))=some (((),((numv bs:Nat):Int),()),((l,()),())):=by
 have hF:=zK
 unfold L89_0
 refine (zs (f:=B89_0) (λ(v:Nat) i=>(((),(v:Int),bs,((bs.length:Nat):Int),(i:Int),()),((l,()),()))) bs (λa v=>.inl (numG v a)) (λv=>(((),(v:Int),()),((l,()),()))) (λv i=>v<256^i)
  (λv i a hv hi ha=>?_) (λv _=>?_) (by omega) (b:=0) (by simp)).trans ?_
 ·refine .inl ⟨_,rfl,numG_lt v a i hv,?_⟩
  have hp:=pow4 (i:=i) (by omega)
  have d0:decide ((i:Int)<((bs.length:Nat):Int))=true:=zW (by omega)
  have d1:decide ((0:Int)<=(i:Int))=true:=zW (by omega)
  have w1:zX ((i:Int)+1)=((i+1:Nat):Int):=by rw [zO (by omega) (by omega)];rfl
  have w2:zX ((v:Int)*2^8)=((v*256:Nat):Int):=by rw [zO (by omega) (by omega)];omega
  have hc:=a.toNat_lt
  have o:wX .or .i64 ((v*256:Nat):Int) ((a.toNat:Nat):Int)=((numG v a:Nat):Int):=by
   rw [or64 _ _ (by omega) (by omega)]
   have e:v*256 ||| a.toNat=v*256+a.toNat:=by
    have:=Nat.two_pow_add_eq_or_of_lt (i:=8) hc v
    rw [Nat.mul_comm] at this
    exact this.symm
   rw [e];rfl
  simp only [B89_0,d0,d1,z8,zG,zr,ha,w1,w2,o]
 ·simp only [B89_0,Int.lt_irrefl,yp,zJ]
 ·rw [foldS_inl numG]
  rfl
theorem L427_eq (l bs:List UInt8) (off:Bool) (hb:bs.length<=4):L427_0 (((),(),(0:Int),(0:Int),()),((l,off,()),bs,()))=some (((),((numv bs:Nat):Int),()),((l,off,()),())):=by
 have hF:=zK
 unfold L427_0
 refine (zs (f:=B427_0) (λ(v:Nat) i=>(((),(),(v:Int),(i:Int),()),((l,off,()),bs,()))) bs (λa v=>.inl (numG v a)) (λv=>(((),(v:Int),()),((l,off,()),()))) (λv i=>v<256^i)
  (λv i a hv hi ha=>?_) (λv _=>?_) (by omega) (b:=0) (by simp)).trans ?_
 ·refine .inl ⟨_,rfl,numG_lt v a i hv,?_⟩
  have hp:=pow4 (i:=i) (by omega)
  have hc:=a.toNat_lt
  have d0:decide ((i:Int)<((bs.length:Nat):Int))=true:=zW (by omega)
  have d1:decide ((0:Int)<=(i:Int))=true:=zW (by omega)
  have w1:zX ((i:Int)+1)=((i+1:Nat):Int):=by rw [zO (by omega) (by omega)];rfl
  have w2:zX ((256:Int)*(v:Int))=((v*256:Nat):Int):=by rw [zO (by omega) (by omega)];omega
  have w3:zX (((v*256:Nat):Int)+((a.toNat:Nat):Int))=((numG v a:Nat):Int):=by
   rw [zO (by omega) (by omega)];unfold numG;omega
  simp only [B427_0,d0,d1,z8,zG,zE,zr,ha,w1,w2,w3]
 ·simp only [B427_0,Int.lt_irrefl,yp,zJ]
 ·rw [foldS_inl numG]
  rfl
def tak (n:Nat) (l:List UInt8):Option (List UInt8×List UInt8):=if l.length<n then none else some (l.take n,l.drop n)
def vu (n:Nat) (l:List UInt8):Option (Nat×List UInt8):=if l.length<n then none else some (numv (l.take n),l.drop n)
def xZ (w:Nat) (l:List UInt8):Option (List UInt8×List UInt8):=(vu w l).bind λq=>tak q.1 q.2
def ltr1 (l:List UInt8):Option (yO×List UInt8):=(vu 4 l).bind λu=>(vu 1 u.2).bind λf=>(xZ 2 f.2).bind λb=>some (((u.1:Int),uk (f.1:Int),b.1,()),b.2)
def wF:Nat->List UInt8->Option (List yO×List UInt8)
 | 0,l=>some ([],l)
 | n+1,l=>(ltr1 l).bind λq=>(wF n q.2).bind λr=>some (q.1::r.1,r.2)
def uu (l:List UInt8):Option (Bx×List UInt8):=(xZ 1 l).bind λn=>(vu 4 n.2).bind λv=>(vu 4 v.2).bind λx=>(vu 1 x.2).bind λc=>(wF c.1 c.2).bind λq=>some ((n.1,(v.1:Int),(x.1:Int),q.1,()),q.2)
def yg:Nat->List UInt8->Option (List Bx×List UInt8)
 | 0,l=>some ([],l)
 | n+1,l=>(uu l).bind λq=>(yg n q.2).bind λr=>some (q.1::r.1,r.2)
def vT (l:List UInt8):Option (wg×List UInt8):=(xZ 1 l).bind λn=>(vu 4 n.2).bind λv=>(vu 1 v.2).bind λc=>(yg c.1 c.2).bind λq=>some ((n.1,(v.1:Int),q.1,()),q.2)
theorem up {n:Nat} {l:List UInt8} {q:Nat×List UInt8} (h:vu n l=some q):q.1<256^n:=by
 unfold vu at h
 split at h
 ·cases h
 ·cases h
  have:=numv_lt (l.take n)
  rwa [y4,Nat.min_eq_left (by omega)] at this
theorem y5 {n:Nat} {l:List UInt8} {q:Nat×List UInt8} (hn:n<=4) (h:vu n l=some q):F89 (((),(n:Int),()),((l,()),()))=some (.inl (q.1:Int),((q.2,()),())):=by
 have e:=vY l n
 unfold vu at h
 split at h
 ·cases h
 ·rename_i h'
  cases h
  rw [if_neg h'] at e
  have ht:(l.take n).length=n:=by rw [y4];omega
  simp only [F89,e,zE,L89_eq (l.drop n) (l.take n) (by omega)]
theorem wZ {n:Nat} {l:List UInt8} (h:vu n l=none):∃ l',F89 (((),(n:Int),()),((l,()),()))=some (.inr (3,()),((l',()),())):=by
 have e:=vY l n
 unfold vu at h
 split at h
 ·rename_i h'
  rw [if_pos h'] at e
  exact ⟨l,by simp only [F89,e,zE]⟩
 ·cases h
theorem F88_some {l:List UInt8} {q:List UInt8×List UInt8} (h:xZ 1 l=some q):F88 (((),()),((l,()),()))=some (.inl q.1,((q.2,()),())):=by
 unfold xZ at h
 cases h1:vu 1 l with
 | none=>rw [h1] at h;cases h
 | some r =>
  rw [h1,zE] at h
  have e1:=y5 (by omega) h1
  rw [show ((1:Nat):Int)=1 from rfl] at e1
  have e2:=vY r.2 r.1
  unfold tak at h
  split at h
  ·cases h
  ·rename_i h'
   cases h
   rw [if_neg h'] at e2
   simp only [F88,e1,zE,e2]
theorem F88_none {l:List UInt8} (h:xZ 1 l=none):∃ l',F88 (((),()),((l,()),()))=some (.inr (3,()),((l',()),())):=by
 unfold xZ at h
 cases h1:vu 1 l with
 | none =>
  obtain ⟨l',e1⟩:=wZ h1
  rw [show ((1:Nat):Int)=1 from rfl] at e1
  exact ⟨l',by simp only [F88,e1,zE]⟩
 | some r =>
  rw [h1,zE] at h
  have e1:=y5 (by omega) h1
  rw [show ((1:Nat):Int)=1 from rfl] at e1
  have e2:=vY r.2 r.1
  unfold tak at h
  split at h
  ·rename_i h'
   rw [if_pos h'] at e2
   exact ⟨r.2,by simp only [F88,e1,zE,e2]⟩
  ·cases h
theorem F90_some {l:List UInt8} {q:List UInt8×List UInt8} (h:xZ 2 l=some q):F90 (((),()),((l,()),()))=some (.inl q.1,((q.2,()),())):=by
 unfold xZ at h
 cases h1:vu 2 l with
 | none=>rw [h1] at h;cases h
 | some r =>
  rw [h1,zE] at h
  have hr:=up h1
  have e1:=y5 (by omega) h1
  rw [show ((2:Nat):Int)=2 from rfl] at e1
  have e2:=vY r.2 r.1
  unfold tak at h
  split at h
  ·cases h
  ·rename_i h'
   cases h
   rw [if_neg h'] at e2
   have e3:=F35_eq' (r.2.take r.1) (by rw [y4];omega)
   simp only [F90,e1,zE,e2,e3]
theorem F90_none {l:List UInt8} (h:xZ 2 l=none):∃ l',F90 (((),()),((l,()),()))=some (.inr (3,()),((l',()),())):=by
 unfold xZ at h
 cases h1:vu 2 l with
 | none =>
  obtain ⟨l',e1⟩:=wZ h1
  rw [show ((2:Nat):Int)=2 from rfl] at e1
  exact ⟨l',by simp only [F90,e1,zE]⟩
 | some r =>
  rw [h1,zE] at h
  have e1:=y5 (by omega) h1
  rw [show ((2:Nat):Int)=2 from rfl] at e1
  have e2:=vY r.2 r.1
  unfold tak at h
  split at h
  ·rename_i h'
   rw [if_pos h'] at e2
   exact ⟨r.2,by simp only [F90,e1,zE,e2]⟩
  ·cases h
theorem ltrs_split {n i:Nat} {l l':List UInt8} {ls:List yO} (hi:i<n) {a:yO} {l2:List UInt8} (h1:ltr1 l'=some (a,l2))
  (h:wF n l=(wF (n-i) l').bind λq=>some (ls++q.1,q.2)):wF n l=(wF (n-(i+1)) l2).bind λq=>some ((ls++[a])++q.1,q.2):=by
 rw [h,show n-i=(n-(i+1))+1 by omega]
 simp only [wF,h1,zE]
 cases wF (n-(i+1)) l2 <;> simp
theorem ltrs_stop {n i:Nat} {l l':List UInt8} {ls:List yO} (hi:i<n) (h1:ltr1 l'=none)
  (h:wF n l=(wF (n-i) l').bind λq=>some (ls++q.1,q.2)):wF n l=none:=by
 rw [h,show n-i=(n-(i+1))+1 by omega]
 simp only [wF,h1,Option.bind_none]
theorem ltrs_end {n:Nat} {l l':List UInt8} {ls:List yO}
  (h:wF n l=(wF (n-n) l').bind λq=>some (ls++q.1,q.2)):wF n l=some (ls,l'):=by
 rw [h,Nat.sub_self]
 simp [wF]
theorem boxs_split {n i:Nat} {l l':List UInt8} {ls:List Bx} (hi:i<n) {a:Bx} {l2:List UInt8} (h1:uu l'=some (a,l2))
  (h:yg n l=(yg (n-i) l').bind λq=>some (ls++q.1,q.2)):yg n l=(yg (n-(i+1)) l2).bind λq=>some ((ls++[a])++q.1,q.2):=by
 rw [h,show n-i=(n-(i+1))+1 by omega]
 simp only [yg,h1,zE]
 cases yg (n-(i+1)) l2 <;> simp
theorem vg {n i:Nat} {l l':List UInt8} {ls:List Bx} (hi:i<n) (h1:uu l'=none)
  (h:yg n l=(yg (n-i) l').bind λq=>some (ls++q.1,q.2)):yg n l=none:=by
 rw [h,show n-i=(n-(i+1))+1 by omega]
 simp only [yg,h1,Option.bind_none]
theorem boxs_end {n:Nat} {l l':List UInt8} {ls:List Bx}
  (h:yg n l=(yg (n-n) l').bind λq=>some (ls++q.1,q.2)):yg n l=some (ls,l'):=by
 rw [h,Nat.sub_self]
 simp [yg]
theorem L87_1_eq (l:List UInt8) (N:NmT) (bxs:List Bx) (B:BnT) (c0 i0:Int) (cnt:Nat) (hc:cnt<=255) :
  ∃ r,L87_1 (((),(),(),c0,i0,(cnt:Int),(0:Int),()),((l,()),N,bxs,B,([]:List yO),()))=some r /\
   match r with
   | .inl q=>∃ l' ls',wF cnt l=some (ls',l')/\q=(((),(),(),c0,i0,()),((l',()),N,bxs,B,ls',()))
   | .inr q=>wF cnt l=none/\∃ l',q=(((3,()),()),((l',()),N,bxs,())):=by
 obtain ⟨nn,nv,⟨⟩,⟨⟩⟩:=N
 obtain ⟨bn,bv,bx,⟨⟩,⟨⟩⟩:=B
 have hF:=zK
 unfold L87_1
 refine yE (f:=uh) (λp=>∃ (i:Nat) (l':List UInt8) (ls:List yO),i<=cnt/\ls.length<=i/\p=(((),(),(),c0,i0,(cnt:Int),(i:Int),()),((l',()),(nn,nv,(),()),bxs,(bn,bv,bx,(),()),ls,()))/\wF cnt l=(wF (cnt-i) l').bind λq=>some (ls++q.1,q.2)) (λp=>cnt-p.1.2.2.2.2.2.2.1.toNat) _ ?_
  ⟨0,l,[],Nat.zero_le _,Nat.le_refl _,rfl,by rw [Nat.sub_zero];cases wF cnt l <;> simp⟩ (by simp only;omega)
 rintro p ⟨i,l',ls,hi,hl,rfl,hq⟩
 rcases Nat.lt_or_ge i cnt with h | h
 ·have d0:decide ((i:Int)<(cnt:Int))=true:=zW (by omega)
  have w1:zX ((i:Int)+1)=((i+1:Nat):Int):=by rw [zO (by omega) (by omega)];rfl
  cases h1:vu 4 l' with
  | none =>
   obtain ⟨l1,e1⟩:=wZ h1
   rw [show ((4:Nat):Int)=4 from rfl] at e1
   exact .inr ⟨.inr (((3,()),()),((l1,()),(nn,nv,(),()),bxs,())),by simp only [uh,d0,zG,e1,zE],ltrs_stop h (by simp [ltr1,h1]) hq,_,rfl⟩
  | some r1 =>
  have e1:=y5 (by omega) h1
  rw [show ((4:Nat):Int)=4 from rfl] at e1
  cases h2:vu 1 r1.2 with
  | none =>
   obtain ⟨l1,e2⟩:=wZ h2
   rw [show ((1:Nat):Int)=1 from rfl] at e2
   exact .inr ⟨.inr (((3,()),()),((l1,()),(nn,nv,(),()),bxs,())),by simp only [uh,d0,zG,e1,zE,e2],ltrs_stop h (by simp [ltr1,h1,h2]) hq,_,rfl⟩
  | some r2 =>
  have e2:=y5 (by omega) h2
  rw [show ((1:Nat):Int)=1 from rfl] at e2
  cases h3:xZ 2 r2.2 with
  | none =>
   obtain ⟨l1,e3⟩:=F90_none h3
   exact .inr ⟨.inr (((3,()),()),((l1,()),(nn,nv,(),()),bxs,())),by simp only [uh,d0,zG,e1,zE,e2,e3],ltrs_stop h (by simp [ltr1,h1,h2,h3]) hq,_,rfl⟩
  | some r3 =>
  have e3:=F90_some h3
  have hb:∀ x:yO,zC (ls.length+[x].length) 40=true:=λx=>zT (by simp only [va];omega)
  refine .inl ⟨_,by simp only [uh,d0,zG,e1,zE,e2,e3,hb,w1];rfl,⟨i+1,r3.2,_,h,?_,rfl,ltrs_split h (by simp [ltr1,h1,h2,h3]) hq⟩,?_⟩
  ·rw [yU,va];omega
  ·simp only;omega
 ·have hi':i=cnt:=by omega
  subst hi'
  exact .inr ⟨.inl (((),(),(),c0,i0,()),((l',()),(nn,nv,(),()),bxs,(bn,bv,bx,(),()),ls,())),by simp only [uh,Int.lt_irrefl,yp,zJ],_,_,ltrs_end hq,rfl⟩
theorem L87_0_eq (l:List UInt8) (N:NmT) (cnt:Nat) (hc:cnt<=255) :
  ∃ r,L87_0 (((),(),(cnt:Int),(0:Int),()),((l,()),N,([]:List Bx),()))=some r /\
   match r with
   | .inl q=>∃ l' ls',yg cnt l=some (ls',l')/\q=(((),(),()),((l',()),N,ls',()))
   | .inr q=>yg cnt l=none/\∃ l' ls',q=(((3,()),()),((l',()),N,ls',())):=by
 obtain ⟨nn,nv,⟨⟩,⟨⟩⟩:=N
 have hF:=zK
 unfold L87_0
 refine yE (f:=wn) (λp=>∃ (i:Nat) (l':List UInt8) (ls:List Bx),i<=cnt/\ls.length<=i/\p=(((),(),(cnt:Int),(i:Int),()),((l',()),(nn,nv,(),()),ls,()))/\yg cnt l=(yg (cnt-i) l').bind λq=>some (ls++q.1,q.2)) (λp=>cnt-p.1.2.2.2.1.toNat) _ ?_
  ⟨0,l,[],Nat.zero_le _,Nat.le_refl _,rfl,by rw [Nat.sub_zero];cases yg cnt l <;> simp⟩ (by simp only;omega)
 rintro p ⟨i,l',ls,hi,hl,rfl,hq⟩
 rcases Nat.lt_or_ge i cnt with h | h
 ·have d0:decide ((i:Int)<(cnt:Int))=true:=zW (by omega)
  have w1:zX ((i:Int)+1)=((i+1:Nat):Int):=by rw [zO (by omega) (by omega)];rfl
  cases h0:xZ 1 l' with
  | none =>
   obtain ⟨l1,e0⟩:=F88_none h0
   exact .inr ⟨.inr (((3,()),()),((l1,()),(nn,nv,(),()),ls,())),by simp only [wn,d0,zG,e0,zE],vg h (by simp [uu,h0]) hq,_,_,rfl⟩
  | some r0 =>
  have e0:=F88_some h0
  cases h1:vu 4 r0.2 with
  | none =>
   obtain ⟨l1,e1⟩:=wZ h1
   rw [show ((4:Nat):Int)=4 from rfl] at e1
   exact .inr ⟨.inr (((3,()),()),((l1,()),(nn,nv,(),()),ls,())),by simp only [wn,d0,zG,e0,e1,zE],vg h (by simp [uu,h0,h1]) hq,_,_,rfl⟩
  | some r1 =>
  have e1:=y5 (by omega) h1
  rw [show ((4:Nat):Int)=4 from rfl] at e1
  cases h2:vu 4 r1.2 with
  | none =>
   obtain ⟨l1,e2⟩:=wZ h2
   rw [show ((4:Nat):Int)=4 from rfl] at e2
   exact .inr ⟨.inr (((3,()),()),((l1,()),(nn,nv,(),()),ls,())),by simp only [wn,d0,zG,e0,e1,zE,e2],vg h (by simp [uu,h0,h1,h2]) hq,_,_,rfl⟩
  | some r2 =>
  have e2:=y5 (by omega) h2
  rw [show ((4:Nat):Int)=4 from rfl] at e2
  cases h3:vu 1 r2.2 with
  | none =>
   obtain ⟨l1,e3⟩:=wZ h3
   rw [show ((1:Nat):Int)=1 from rfl] at e3
   exact .inr ⟨.inr (((3,()),()),((l1,()),(nn,nv,(),()),ls,())),by simp only [wn,d0,zG,e0,e1,zE,e2,e3],vg h (by simp [uu,h0,h1,h2,h3]) hq,_,_,rfl⟩
  | some r3 =>
  have e3:=y5 (by omega) h3
  rw [show ((1:Nat):Int)=1 from rfl] at e3
  have hk:=up h3
  obtain ⟨r4,e4,h4⟩:=L87_1_eq r3.2 (nn,nv,(),()) ls (r0.1,(r1.1:Int),(r2.1:Int),(),()) (cnt:Int) (i:Int) r3.1 (by omega)
  cases r4 with
  | inr q =>
   obtain ⟨h5,l4,rfl⟩:=h4
   exact .inr ⟨.inr (((3,()),()),((l4,()),(nn,nv,(),()),ls,())),by simp only [wn,d0,zG,e0,e1,zE,e2,e3,e4],vg h (by simp [uu,h0,h1,h2,h3,h5]) hq,_,_,rfl⟩
  | inl q =>
   obtain ⟨l4,ls4,h5,rfl⟩:=h4
   have hb:∀ x:Bx,zC (ls.length+[x].length) 56=true:=λx=>zT (by simp only [va];omega)
   refine .inl ⟨_,by simp only [wn,d0,zG,e0,e1,zE,e2,e3,e4,hb,w1];rfl,⟨i+1,l4,_,h,?_,rfl,boxs_split h (by simp [uu,h0,h1,h2,h3,h5]) hq⟩,?_⟩
   ·rw [yU,va];omega
   ·simp only;omega
 ·have hi':i=cnt:=by omega
  subst hi'
  exact .inr ⟨.inl (((),(),()),((l',()),(nn,nv,(),()),ls,())),by simp only [wn,Int.lt_irrefl,yp,zJ],_,_,boxs_end hq,rfl⟩
theorem rd_some {l:List UInt8} {u:wg} {l':List UInt8} (h:vT l=some (u,l')):vP l=u/\rdE l=if l'.length=0 then 0 else 4:=by
 unfold vP rdE rdR
 cases h0:xZ 1 l with
 | none=>simp [vT,h0] at h
 | some r0 =>
 cases h1:vu 4 r0.2 with
 | none=>simp [vT,h0,h1] at h
 | some r1 =>
 cases h2:vu 1 r1.2 with
 | none=>simp [vT,h0,h1,h2] at h
 | some r2 =>
 have e0:=F88_some h0
 have e1:=y5 (by omega) h1
 have e2:=y5 (by omega) h2
 rw [show ((4:Nat):Int)=4 from rfl] at e1
 rw [show ((1:Nat):Int)=1 from rfl] at e2
 have hk:=up h2
 obtain ⟨r4,e4,h4⟩:=L87_0_eq r2.2 (r0.1,(r1.1:Int),(),()) r2.1 (by omega)
 cases r4 with
 | inr q =>
  obtain ⟨h5,-⟩:=h4
  simp [vT,h0,h1,h2,h5] at h
 | inl q =>
  obtain ⟨l4,ls4,h5,rfl⟩:=h4
  simp only [vT,h0,h1,h2,h5,zE,xQ,Prod.mk.injEq] at h
  obtain ⟨rfl,rfl⟩:=h
  simp only [F87,e0,e1,e2,e4,zE]
  exact ⟨trivial,trivial⟩
theorem rd_none {l:List UInt8} (h:vT l=none):rdE l=3:=by
 unfold rdE rdR
 cases h0:xZ 1 l with
 | none =>
  obtain ⟨l1,e0⟩:=F88_none h0
  simp only [F87,e0,zE]
 | some r0 =>
 have e0:=F88_some h0
 cases h1:vu 4 r0.2 with
 | none =>
  obtain ⟨l1,e1⟩:=wZ h1
  rw [show ((4:Nat):Int)=4 from rfl] at e1
  simp only [F87,e0,e1,zE]
 | some r1 =>
 have e1:=y5 (by omega) h1
 rw [show ((4:Nat):Int)=4 from rfl] at e1
 cases h2:vu 1 r1.2 with
 | none =>
  obtain ⟨l1,e2⟩:=wZ h2
  rw [show ((1:Nat):Int)=1 from rfl] at e2
  simp only [F87,e0,e1,e2,zE]
 | some r2 =>
 have e2:=y5 (by omega) h2
 rw [show ((1:Nat):Int)=1 from rfl] at e2
 have hk:=up h2
 obtain ⟨r4,e4,h4⟩:=L87_0_eq r2.2 (r0.1,(r1.1:Int),(),()) r2.1 (by omega)
 cases r4 with
 | inr q =>
  obtain ⟨h5,l4,ls4,rfl⟩:=h4
  simp only [F87,e0,e1,e2,e4,zE]
 | inl q =>
  obtain ⟨l4,ls4,h5,rfl⟩:=h4
  simp [vT,h0,h1,h2,h5] at h
end Go.Fo
